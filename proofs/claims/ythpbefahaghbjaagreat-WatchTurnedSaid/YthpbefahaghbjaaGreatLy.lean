import Derived.Test.YthpbefahaghbjaaGreatPd6
import Derived.Test.YthpbefahaghbjaaGreatPd2
import Derived.Shelf.SlSortCmp.NoneTotal
import Derived.Shelf.SlSorted.Search
import Derived.Shelf.SlicesE.Compact
import Derived.Shelf.SlicesE.Kit
set_option maxHeartbeats 16000000
set_option maxRecDepth 100000
set_option cbv.maxSteps 100000000
namespace Go.Proofs.YthpbefahaghbjaaGreat
open Go Go.Eng Go.Sort
theorem part8_ok (b y n c a e pv:Nat) (d:Array Int) (w:World) (hA:AtA w b y d) (hn:d.size=n) (hap:a≤pv) (hpe:pv<e) (hen:e≤n) (hbig:n<4611686018427387904) :
  Calls Tryz.prog 122 #[.slice (some ⟨b,y,none⟩) n c,.int .i64 a,.int .i64 e,.int .i64 pv] w fun en w'=>en=.returned (.tuple #[.int .i64 (partition ltInt d a e pv).1,.bool (partition ltInt d a e pv).2.1])∧AtA w' b y (partition ltInt d a e pv).2.2∧Chg (arrD b y n) w w':=by
 obtain ⟨R,hR⟩:∃ R,R=partition ltInt d a e pv:=⟨_,rfl⟩
 rw [←hR]
 obtain ⟨p,hp⟩:∃ p,p=some (Addr.mk b y none):=⟨_,rfl⟩
 rw [←hp]
 have sd:=hn
 refine X.beginA hA hn (ss:=[.slv p n c,.int .i64 (.nat a),.int .i64 (.nat e),.int .i64 (.nat pv)]) Tryz.func122 rfl B122_ok rfl rfl ?_
 refine X.go T122_ok 400 _ rfl Tryz.results122 ?_
 conv=>arg 2;cbv
 obtain ⟨d1,hd1⟩:∃ x,x=swp d a pv:=⟨_,rfl⟩
 have sd1:d1.size=n:=by rw [hd1,swpZ_size];exact sd
 refine X.join (ι:=Unit) (fun _=>aE Tryz.prog Tryz.f122 _ w b y n (wm w) d1 [] B122) (fun _=>⟨[(0,.val (.slv p n c)),(1,.val (.int .i64 (.nat a))),(2,.val (.int .i64 (.nat e)))],[]⟩) (fun _=>⟨rfl,rfl,rfl⟩) (fun qj hqj=>?_) (fun _=>?_)
 ·obtain ⟨xi,hxi⟩:∃ x,d[a]! = x:=⟨_,rfl⟩
  obtain ⟨xj,hxj⟩:∃ x,d[pv]! = x:=⟨_,rfl⟩
  by_cases hij:a=pv
  ·refine X.take1 hA hn sd (i:=a) (by omega) hxi (by simp) (fun N1 _ hN1=>?_)
   have g0:(N1++[⟨b,y+a,1⟩]:Nums)[0]?=some ⟨b,y+a,1⟩:=num_last hN1
   refine X.goP ([(18,.own 0 0),(22,.own 0 0),(24,.own 0 0),(25,.own 0 0)]) T122_ok 400 _ rfl Tryz.results122 (fun pr fin hpr hfin=>?_)
   conv=>cbv
   refine ⟨hpr _ (ValOk.row (z:=a) rfl rfl (fun _=>by first | rfl | (simp (disch:=omega) only [SB.den,SI.den,wrapN]<;>omega)) Tryz.underlying30 Tryz.sizeOf5 (by omega) hp g0 rfl (by simp)),hpr _ (ValOk.row (z:=a) rfl rfl (fun _=>by first | rfl | (simp (disch:=omega) only [SB.den,SI.den,wrapN]<;>omega)) Tryz.underlying30 Tryz.sizeOf5 (by omega) hp g0 rfl (by simp)),hpr _ (ValOk.row (z:=a) rfl rfl (fun _=>by first | rfl | (simp (disch:=omega) only [SB.den,SI.den,wrapN]<;>omega)) Tryz.underlying30 Tryz.sizeOf5 (by omega) hp g0 rfl (by simp)),hpr _ (ValOk.row (z:=a) rfl rfl (fun _=>by first | rfl | (simp (disch:=omega) only [SB.den,SI.den,wrapN]<;>omega)) Tryz.underlying30 Tryz.sizeOf5 (by omega) hp g0 rfl (by simp)),hfin _ _ ?_⟩
   refine X.give1 (i:=a) (r:=0) sd (by omega) hxi rfl g0 ?_
   refine X.back (fun N ac w' hN hf hS=>hqj () ac w' ?_)
   rw [hd1,←hij,swpZ_self (by omega)]
   exact At.again hf hS (by repeat first | exact trivial | refine ⟨⟨_,rfl,.inl ⟨rfl,rfl⟩⟩,?_⟩ | refine ⟨⟨_,rfl,.inr ⟨_,rfl,rfl⟩⟩,?_⟩ | refine ⟨⟨_,rfl,.inr ⟨_,rfl,(by first | (simp (disch:=omega) only [SV.den,SI.den,wrapN,Option.some.injEq,Value.int.injEq,true_and];done) | (simp (disch:=omega) only [SV.den,SI.den,wrapN,Option.some.injEq,Value.int.injEq,true_and];omega))⟩⟩,?_⟩) trivial
  ·refine X.take2 hA hn sd (i:=a) (j:=pv) hij (by omega) (by omega) hxi hxj (by simp) (fun N1 _ hN1=>?_)
   have g0:((N1++[⟨b,y+a,1⟩])++[⟨b,y+pv,1⟩]:Nums)[0]?=some ⟨b,y+a,1⟩:=num_old (num_last hN1)
   have g1:((N1++[⟨b,y+a,1⟩])++[⟨b,y+pv,1⟩]:Nums)[1]?=some ⟨b,y+pv,1⟩:=num_last (by simp [hN1])
   refine X.goP ([(18,.own 1 0),(22,.own 0 0),(24,.own 0 0),(25,.own 1 0)]) T122_ok 400 _ rfl Tryz.results122 (fun pr fin hpr hfin=>?_)
   conv=>cbv
   refine ⟨hpr _ (ValOk.row (z:=pv) rfl rfl (fun _=>by first | rfl | (simp (disch:=omega) only [SB.den,SI.den,wrapN]<;>omega)) Tryz.underlying30 Tryz.sizeOf5 (by omega) hp g1 rfl (by simp)),hpr _ (ValOk.row (z:=a) rfl rfl (fun _=>by first | rfl | (simp (disch:=omega) only [SB.den,SI.den,wrapN]<;>omega)) Tryz.underlying30 Tryz.sizeOf5 (by omega) hp g0 rfl (by simp)),hpr _ (ValOk.row (z:=a) rfl rfl (fun _=>by first | rfl | (simp (disch:=omega) only [SB.den,SI.den,wrapN]<;>omega)) Tryz.underlying30 Tryz.sizeOf5 (by omega) hp g0 rfl (by simp)),hpr _ (ValOk.row (z:=pv) rfl rfl (fun _=>by first | rfl | (simp (disch:=omega) only [SB.den,SI.den,wrapN]<;>omega)) Tryz.underlying30 Tryz.sizeOf5 (by omega) hp g1 rfl (by simp)),hfin _ _ ?_⟩
   refine X.give2 (i:=a) (j:=pv) (r:=0) sd hij (by omega) (by omega) hxi hxj rfl rfl g0 g1 ?_
   refine X.back (fun N ac w' hN hf hS=>hqj () ac w' ?_)
   rw [hd1]
   exact At.again hf hS (by repeat first | exact trivial | refine ⟨⟨_,rfl,.inl ⟨rfl,rfl⟩⟩,?_⟩ | refine ⟨⟨_,rfl,.inr ⟨_,rfl,rfl⟩⟩,?_⟩ | refine ⟨⟨_,rfl,.inr ⟨_,rfl,(by first | (simp (disch:=omega) only [SV.den,SI.den,wrapN,Option.some.injEq,Value.int.injEq,true_and];done) | (simp (disch:=omega) only [SV.den,SI.den,wrapN,Option.some.injEq,Value.int.injEq,true_and];omega))⟩⟩,?_⟩) trivial
 refine X.go T122_ok 400 _ rfl Tryz.results122 ?_
 conv=>arg 2;cbv
 obtain ⟨i0,hi0⟩:∃ k,k=a+1:=⟨_,rfl⟩
 obtain ⟨j0,hj0⟩:∃ k,k=e-1:=⟨_,rfl⟩
 obtain ⟨i10,hi1⟩:∃ k,k=scanUp (fun x=>ltInt x d1[a]!) d1 j0 i0:=⟨_,rfl⟩
 refine X.loop (fun _=>aE Tryz.prog Tryz.f122 _ w b y n (wm w) d1 [] B122) (fun g:{g:Nat // i0≤g∧g≤j0+1∧scanUp (fun x=>ltInt x d1[a]!) d1 j0 g=i10}=>⟨[(0,.val (.slv p n c)),(1,.val (.int .i64 (.nat a))),(10,.val (.int .i64 (.nat g.1))),(11,.val (.int .i64 (.nat j0)))],[]⟩) (fun g=>j0+1-g.1) (fun _=>⟨rfl,rfl,rfl,rfl⟩) (fun N ac w' hN hf hS=>⟨⟨i0,by omega,by omega,hi1.symm⟩,?_⟩) (fun g q hq=>?_)
 ·exact At.again hf hS (by repeat first | exact trivial | refine ⟨⟨_,rfl,.inl ⟨rfl,rfl⟩⟩,?_⟩ | refine ⟨⟨_,rfl,.inr ⟨_,rfl,rfl⟩⟩,?_⟩ | refine ⟨⟨_,rfl,.inr ⟨_,rfl,(by first | (simp (disch:=omega) only [SV.den,SI.den,wrapN,Option.some.injEq,Value.int.injEq,true_and];done) | (simp (disch:=omega) only [SV.den,SI.den,wrapN,Option.some.injEq,Value.int.injEq,true_and];omega))⟩⟩,?_⟩) trivial
 obtain ⟨i1,hu1i1,hu2i1,hu3⟩:=g
 obtain ⟨xu,hxu⟩:∃ x,d1[i1]! = x:=⟨_,rfl⟩
 obtain ⟨xa,hxa⟩:∃ x,d1[a]! = x:=⟨_,rfl⟩
 obtain ⟨t,ht⟩:∃ t,t=ltInt xu xa:=⟨_,rfl⟩
 obtain ⟨ou,hou⟩:∃ o,o=y+i1:=⟨_,rfl⟩
 obtain ⟨oa,hoa⟩:∃ o,o=y+a:=⟨_,rfl⟩
 show X (aE Tryz.prog Tryz.f122 _ w b y n (wm w) d1 [] B122) _ ⟨[(0,.val (.slv p n c)),(1,.val (.int .i64 (.nat a))),(10,.val (.int .i64 (.nat i1))),(11,.val (.int .i64 (.nat j0)))],[]⟩
 refine X.goP ([(36,.ext b ou 0),(37,.int .u8 (.v xu)),(40,.ext b oa 0),(41,.int .u8 (.v xa)),(42,.bool (.v t))]) T122_ok 400 _ rfl Tryz.results122 (fun pr fin hpr hfin=>?_)
 conv=>cbv
 refine ⟨hpr _ (less_call rfl ht),hpr _ (ValOk.im1 rfl Tryz.isAgg5 (fun _=>rfl) fun hT=>(by have hT:_=true:=hT;simp [SB.den,SI.den] at hT;(try replace hT:=of_decide_eq_true hT);(try simp (disch:=omega) only [SI.den,wrapN] at hT);rw [←hxa,hoa];exact arrM_in (by omega))),hpr _ (ValOk.im1 rfl Tryz.isAgg5 (fun _=>rfl) fun hT=>(by have hT:_=true:=hT;simp [SB.den,SI.den] at hT;(try replace hT:=of_decide_eq_true hT);(try simp (disch:=omega) only [SI.den,wrapN] at hT);rw [←hxu,hou];exact arrM_in (by omega))),hpr _ (ValOk.at (z:=a) rfl rfl (fun hT=>by have hT:_=true:=hT;simp [SB.den,SI.den] at hT;(try replace hT:=of_decide_eq_true hT);(try simp (disch:=omega) only [SI.den,wrapN] at hT);first | omega | (simp (disch:=omega) only [SI.den,wrapN]<;>omega)) Tryz.underlying30 Tryz.sizeOf5 (fun hT=>by have hT:_=true:=hT;simp [SB.den,SI.den] at hT;(try replace hT:=of_decide_eq_true hT);(try simp (disch:=omega) only [SI.den,wrapN] at hT);first | omega | (simp (disch:=omega) only [SI.den,wrapN]<;>omega)) hp (by omega)),hpr _ (ValOk.at (z:=i1) rfl rfl (fun hT=>by have hT:_=true:=hT;simp [SB.den,SI.den] at hT;(try replace hT:=of_decide_eq_true hT);(try simp (disch:=omega) only [SI.den,wrapN] at hT);first | omega | (simp (disch:=omega) only [SI.den,wrapN]<;>omega)) Tryz.underlying30 Tryz.sizeOf5 (fun hT=>by have hT:_=true:=hT;simp [SB.den,SI.den] at hT;(try replace hT:=of_decide_eq_true hT);(try simp (disch:=omega) only [SI.den,wrapN] at hT);first | omega | (simp (disch:=omega) only [SI.den,wrapN]<;>omega)) hp (by omega)),hfin _ _ ?_⟩
 refine X.cond rfl (fun hc=>?_) (fun hc=>?_)
 ·simp only [SB.T,SB.F,SI.den] at hc
  obtain ⟨hc1,hc2⟩:=hc
  refine X.go T122_ok 400 _ rfl Tryz.results122 ?_
  conv=>arg 2;cbv
  refine X.back (fun N ac w' hN hf hS=>hq ⟨i1+1,by omega,by omega,?_⟩ ac w' (by simp only;omega) ?_)
  ·rw [←hu3];conv=>rhs;rw [scanUp,if_pos (by rw [hxu,hxa,←ht,hc2];simp;omega)]
  ·exact At.again hf hS (by repeat first | exact trivial | refine ⟨⟨_,rfl,.inl ⟨rfl,rfl⟩⟩,?_⟩ | refine ⟨⟨_,rfl,.inr ⟨_,rfl,rfl⟩⟩,?_⟩ | refine ⟨⟨_,rfl,.inr ⟨_,rfl,(by first | (simp (disch:=omega) only [SV.den,SI.den,wrapN,Option.some.injEq,Value.int.injEq,true_and];done) | (simp (disch:=omega) only [SV.den,SI.den,wrapN,Option.some.injEq,Value.int.injEq,true_and];omega))⟩⟩,?_⟩) trivial
 simp only [SB.T,SB.F,SI.den] at hc
 rw [scanUp,if_neg (by rw [hxu,hxa,←ht];rcases hc with h | h;simp;omega;simp [h])] at hu3
 have xi1:i1 > j0∨ltInt d1[i1]! d1[a]! = false:=by
  rcases hc with h | h
  ·left;omega
  ·right;rw [hxu,hxa,←ht];exact h
 subst hu3
 clear hc hxu hxa ht hou hoa hq
 refine X.go T122_ok 400 _ rfl Tryz.results122 ?_
 conv=>arg 2;cbv
 obtain ⟨j10,hj1⟩:∃ k,k=scanDown (fun x=>!ltInt x d1[a]!) d1 i1 j0:=⟨_,rfl⟩
 refine X.loop (fun _=>aE Tryz.prog Tryz.f122 _ w b y n (wm w) d1 [] B122) (fun g:{g:Nat // g≤j0∧i1≤g+1∧scanDown (fun x=>!ltInt x d1[a]!) d1 i1 g=j10}=>⟨[(0,.val (.slv p n c)),(1,.val (.int .i64 (.nat a))),(10,.val (.int .i64 (.nat i1))),(11,.val (.int .i64 (.nat g.1)))],[]⟩) (fun g=>g.1) (fun _=>⟨rfl,rfl,rfl,rfl⟩) (fun N ac w' hN hf hS=>⟨⟨j0,by omega,by omega,hj1.symm⟩,?_⟩) (fun g q hq=>?_)
 ·exact At.again hf hS (by repeat first | exact trivial | refine ⟨⟨_,rfl,.inl ⟨rfl,rfl⟩⟩,?_⟩ | refine ⟨⟨_,rfl,.inr ⟨_,rfl,rfl⟩⟩,?_⟩ | refine ⟨⟨_,rfl,.inr ⟨_,rfl,(by first | (simp (disch:=omega) only [SV.den,SI.den,wrapN,Option.some.injEq,Value.int.injEq,true_and];done) | (simp (disch:=omega) only [SV.den,SI.den,wrapN,Option.some.injEq,Value.int.injEq,true_and];omega))⟩⟩,?_⟩) trivial
 obtain ⟨j1,hu1j1,hu2j1,hu3⟩:=g
 obtain ⟨xu,hxu⟩:∃ x,d1[j1]! = x:=⟨_,rfl⟩
 obtain ⟨xa,hxa⟩:∃ x,d1[a]! = x:=⟨_,rfl⟩
 obtain ⟨t,ht⟩:∃ t,t=ltInt xu xa:=⟨_,rfl⟩
 obtain ⟨ou,hou⟩:∃ o,o=y+j1:=⟨_,rfl⟩
 obtain ⟨oa,hoa⟩:∃ o,o=y+a:=⟨_,rfl⟩
 show X (aE Tryz.prog Tryz.f122 _ w b y n (wm w) d1 [] B122) _ ⟨[(0,.val (.slv p n c)),(1,.val (.int .i64 (.nat a))),(10,.val (.int .i64 (.nat i1))),(11,.val (.int .i64 (.nat j1)))],[]⟩
 refine X.goP ([(52,.ext b ou 0),(53,.int .u8 (.v xu)),(56,.ext b oa 0),(57,.int .u8 (.v xa)),(58,.bool (.v t))]) T122_ok 400 _ rfl Tryz.results122 (fun pr fin hpr hfin=>?_)
 conv=>cbv
 refine ⟨hpr _ (less_call rfl ht),hpr _ (ValOk.im1 rfl Tryz.isAgg5 (fun _=>rfl) fun hT=>(by have hT:_=true:=hT;simp [SB.den,SI.den] at hT;(try replace hT:=of_decide_eq_true hT);(try simp (disch:=omega) only [SI.den,wrapN] at hT);rw [←hxa,hoa];exact arrM_in (by omega))),hpr _ (ValOk.im1 rfl Tryz.isAgg5 (fun _=>rfl) fun hT=>(by have hT:_=true:=hT;simp [SB.den,SI.den] at hT;(try replace hT:=of_decide_eq_true hT);(try simp (disch:=omega) only [SI.den,wrapN] at hT);rw [←hxu,hou];exact arrM_in (by omega))),hpr _ (ValOk.at (z:=a) rfl rfl (fun hT=>by have hT:_=true:=hT;simp [SB.den,SI.den] at hT;(try replace hT:=of_decide_eq_true hT);(try simp (disch:=omega) only [SI.den,wrapN] at hT);first | omega | (simp (disch:=omega) only [SI.den,wrapN]<;>omega)) Tryz.underlying30 Tryz.sizeOf5 (fun hT=>by have hT:_=true:=hT;simp [SB.den,SI.den] at hT;(try replace hT:=of_decide_eq_true hT);(try simp (disch:=omega) only [SI.den,wrapN] at hT);first | omega | (simp (disch:=omega) only [SI.den,wrapN]<;>omega)) hp (by omega)),hpr _ (ValOk.at (z:=j1) rfl rfl (fun hT=>by have hT:_=true:=hT;simp [SB.den,SI.den] at hT;(try replace hT:=of_decide_eq_true hT);(try simp (disch:=omega) only [SI.den,wrapN] at hT);first | omega | (simp (disch:=omega) only [SI.den,wrapN]<;>omega)) Tryz.underlying30 Tryz.sizeOf5 (fun hT=>by have hT:_=true:=hT;simp [SB.den,SI.den] at hT;(try replace hT:=of_decide_eq_true hT);(try simp (disch:=omega) only [SI.den,wrapN] at hT);first | omega | (simp (disch:=omega) only [SI.den,wrapN]<;>omega)) hp (by omega)),hfin _ _ ?_⟩
 refine X.cond rfl (fun hc=>?_) (fun hc=>?_)
 ·simp only [SB.T,SB.F,SI.den] at hc
  obtain ⟨hc1,hc2⟩:=hc
  refine X.go T122_ok 400 _ rfl Tryz.results122 ?_
  conv=>arg 2;cbv
  refine X.back (fun N ac w' hN hf hS=>hq ⟨j1-1,by omega,by omega,?_⟩ ac w' (by simp only;omega) ?_)
  ·obtain ⟨v,rfl⟩:∃ v,j1=v+1:=⟨j1-1,by omega⟩
   rw [←hu3];conv=>rhs;rw [scanDown,if_pos (by rw [hxu,hxa,←ht,hc2];simp;omega)]
   rfl
  ·exact At.again hf hS (by repeat first | exact trivial | refine ⟨⟨_,rfl,.inl ⟨rfl,rfl⟩⟩,?_⟩ | refine ⟨⟨_,rfl,.inr ⟨_,rfl,rfl⟩⟩,?_⟩ | refine ⟨⟨_,rfl,.inr ⟨_,rfl,(by first | (simp (disch:=omega) only [SV.den,SI.den,wrapN,Option.some.injEq,Value.int.injEq,true_and];done) | (simp (disch:=omega) only [SV.den,SI.den,wrapN,Option.some.injEq,Value.int.injEq,true_and];omega))⟩⟩,?_⟩) trivial
 simp only [SB.T,SB.F,SI.den] at hc
 have hu3:j1=j10:=by
  cases j1 with
  | zero=>rw [←hu3];rfl
  | succ v=>rw [←hu3,scanDown,if_neg (by rw [hxu,hxa,←ht];rcases hc with h | h;simp;omega;simp [h])]
 have xj1:i1 > j1∨ltInt d1[j1]! d1[a]! = true:=by
  rcases hc with h | h
  ·left;omega
  ·right;rw [hxu,hxa,←ht];exact h
 subst hu3
 clear hc hxu hxa ht hou hoa hq
 refine X.go T122_ok 400 _ rfl Tryz.results122 ?_
 conv=>arg 2;cbv
 have hR1:R=(if i1 > j1 then (j1,true,swp d1 j1 a) else ((partLoop ltInt a (i1+1) (j1-1) (swp d1 i1 j1)).1,false,swp (partLoop ltInt a (i1+1) (j1-1) (swp d1 i1 j1)).2 (partLoop ltInt a (i1+1) (j1-1) (swp d1 i1 j1)).1 a)):=by
  rw [hR]
  unfold partition
  simp only [←hd1,←hi0,←hj0,←hi1,←hj1]
 refine X.cond rfl (fun hgt=>?_) (fun hle=>?_)
 ·simp only [SB.T,SI.den] at hgt
  rw [if_pos (by omega)] at hR1
  refine X.go T122_ok 400 _ rfl Tryz.results122 ?_
  conv=>arg 2;cbv
  obtain ⟨d2,hd2⟩:∃ x,x=swp d1 j1 a:=⟨_,rfl⟩
  have sd2:d2.size=n:=by rw [hd2,swpZ_size];exact sd1
  refine X.join (ι:=Unit) (fun _=>aE Tryz.prog Tryz.f122 _ w b y n (wm w) d2 [] B122) (fun _=>⟨[(0,.val (.slv p n c)),(1,.val (.int .i64 (.nat a))),(11,.val (.int .i64 (.nat j1)))],[]⟩) (fun _=>⟨rfl,rfl,rfl⟩) (fun qj hqj=>?_) (fun _=>?_)
  ·obtain ⟨xi,hxi⟩:∃ x,d1[j1]! = x:=⟨_,rfl⟩
   obtain ⟨xj,hxj⟩:∃ x,d1[a]! = x:=⟨_,rfl⟩
   by_cases hij:j1=a
   ·refine X.take1 hA hn sd1 (i:=j1) (by omega) hxi (by simp) (fun N1 _ hN1=>?_)
    have g0:(N1++[⟨b,y+j1,1⟩]:Nums)[0]?=some ⟨b,y+j1,1⟩:=num_last hN1
    refine X.goP ([(72,.own 0 0),(76,.own 0 0),(78,.own 0 0),(79,.own 0 0)]) T122_ok 400 _ rfl Tryz.results122 (fun pr fin hpr hfin=>?_)
    conv=>cbv
    refine ⟨hpr _ (ValOk.row (z:=j1) rfl rfl (fun _=>by first | rfl | (simp (disch:=omega) only [SB.den,SI.den,wrapN]<;>omega)) Tryz.underlying30 Tryz.sizeOf5 (by omega) hp g0 rfl (by simp)),hpr _ (ValOk.row (z:=j1) rfl rfl (fun _=>by first | rfl | (simp (disch:=omega) only [SB.den,SI.den,wrapN]<;>omega)) Tryz.underlying30 Tryz.sizeOf5 (by omega) hp g0 rfl (by simp)),hpr _ (ValOk.row (z:=j1) rfl rfl (fun _=>by first | rfl | (simp (disch:=omega) only [SB.den,SI.den,wrapN]<;>omega)) Tryz.underlying30 Tryz.sizeOf5 (by omega) hp g0 rfl (by simp)),hpr _ (ValOk.row (z:=j1) rfl rfl (fun _=>by first | rfl | (simp (disch:=omega) only [SB.den,SI.den,wrapN]<;>omega)) Tryz.underlying30 Tryz.sizeOf5 (by omega) hp g0 rfl (by simp)),hfin _ _ ?_⟩
    refine X.give1 (i:=j1) (r:=0) sd1 (by omega) hxi rfl g0 ?_
    refine X.back (fun N ac w' hN hf hS=>hqj () ac w' ?_)
    rw [hd2,←hij,swpZ_self (by omega)]
    exact At.again hf hS (by repeat first | exact trivial | refine ⟨⟨_,rfl,.inl ⟨rfl,rfl⟩⟩,?_⟩ | refine ⟨⟨_,rfl,.inr ⟨_,rfl,rfl⟩⟩,?_⟩ | refine ⟨⟨_,rfl,.inr ⟨_,rfl,(by first | (simp (disch:=omega) only [SV.den,SI.den,wrapN,Option.some.injEq,Value.int.injEq,true_and];done) | (simp (disch:=omega) only [SV.den,SI.den,wrapN,Option.some.injEq,Value.int.injEq,true_and];omega))⟩⟩,?_⟩) trivial
   ·refine X.take2 hA hn sd1 (i:=j1) (j:=a) hij (by omega) (by omega) hxi hxj (by simp) (fun N1 _ hN1=>?_)
    have g0:((N1++[⟨b,y+j1,1⟩])++[⟨b,y+a,1⟩]:Nums)[0]?=some ⟨b,y+j1,1⟩:=num_old (num_last hN1)
    have g1:((N1++[⟨b,y+j1,1⟩])++[⟨b,y+a,1⟩]:Nums)[1]?=some ⟨b,y+a,1⟩:=num_last (by simp [hN1])
    refine X.goP ([(72,.own 1 0),(76,.own 0 0),(78,.own 0 0),(79,.own 1 0)]) T122_ok 400 _ rfl Tryz.results122 (fun pr fin hpr hfin=>?_)
    conv=>cbv
    refine ⟨hpr _ (ValOk.row (z:=a) rfl rfl (fun _=>by first | rfl | (simp (disch:=omega) only [SB.den,SI.den,wrapN]<;>omega)) Tryz.underlying30 Tryz.sizeOf5 (by omega) hp g1 rfl (by simp)),hpr _ (ValOk.row (z:=j1) rfl rfl (fun _=>by first | rfl | (simp (disch:=omega) only [SB.den,SI.den,wrapN]<;>omega)) Tryz.underlying30 Tryz.sizeOf5 (by omega) hp g0 rfl (by simp)),hpr _ (ValOk.row (z:=j1) rfl rfl (fun _=>by first | rfl | (simp (disch:=omega) only [SB.den,SI.den,wrapN]<;>omega)) Tryz.underlying30 Tryz.sizeOf5 (by omega) hp g0 rfl (by simp)),hpr _ (ValOk.row (z:=a) rfl rfl (fun _=>by first | rfl | (simp (disch:=omega) only [SB.den,SI.den,wrapN]<;>omega)) Tryz.underlying30 Tryz.sizeOf5 (by omega) hp g1 rfl (by simp)),hfin _ _ ?_⟩
    refine X.give2 (i:=j1) (j:=a) (r:=0) sd1 hij (by omega) (by omega) hxi hxj rfl rfl g0 g1 ?_
    refine X.back (fun N ac w' hN hf hS=>hqj () ac w' ?_)
    rw [hd2]
    exact At.again hf hS (by repeat first | exact trivial | refine ⟨⟨_,rfl,.inl ⟨rfl,rfl⟩⟩,?_⟩ | refine ⟨⟨_,rfl,.inr ⟨_,rfl,rfl⟩⟩,?_⟩ | refine ⟨⟨_,rfl,.inr ⟨_,rfl,(by first | (simp (disch:=omega) only [SV.den,SI.den,wrapN,Option.some.injEq,Value.int.injEq,true_and];done) | (simp (disch:=omega) only [SV.den,SI.den,wrapN,Option.some.injEq,Value.int.injEq,true_and];omega))⟩⟩,?_⟩) trivial
  refine X.go T122_ok 400 _ rfl Tryz.results122 ?_
  conv=>arg 2;cbv
  refine X.done T122_ok rfl (fun N w' v hN hS hv=>⟨?_,?_⟩)
  ·simp only [resV,SV.den,SV.denL,SI.den,SB.den,Option.some.injEq] at hv
   rw [←hv,hR1]
  ·rw [hR1,←hd2]
   exact Sat.arr hS hA hn sd2
 simp only [SB.F,SI.den] at hle
 rw [if_neg (by omega)] at hR1
 refine X.go T122_ok 400 _ rfl Tryz.results122 ?_
 conv=>arg 2;cbv
 obtain ⟨d2,hd2⟩:∃ x,x=swp d1 i1 j1:=⟨_,rfl⟩
 have sd2:d2.size=n:=by rw [hd2,swpZ_size];exact sd1
 refine X.join (ι:=Unit) (fun _=>aE Tryz.prog Tryz.f122 _ w b y n (wm w) d2 [] B122) (fun _=>⟨[(0,.val (.slv p n c)),(1,.val (.int .i64 (.nat a))),(10,.val (.int .i64 (.nat i1))),(11,.val (.int .i64 (.nat j1)))],[]⟩) (fun _=>⟨rfl,rfl,rfl⟩) (fun qj hqj=>?_) (fun _=>?_)
 ·obtain ⟨xi,hxi⟩:∃ x,d1[i1]! = x:=⟨_,rfl⟩
  obtain ⟨xj,hxj⟩:∃ x,d1[j1]! = x:=⟨_,rfl⟩
  by_cases hij:i1=j1
  ·refine X.take1 hA hn sd1 (i:=i1) (by omega) hxi (by simp) (fun N1 _ hN1=>?_)
   have g0:(N1++[⟨b,y+i1,1⟩]:Nums)[0]?=some ⟨b,y+i1,1⟩:=num_last hN1
   refine X.goP ([(87,.own 0 0),(91,.own 0 0),(93,.own 0 0),(94,.own 0 0)]) T122_ok 400 _ rfl Tryz.results122 (fun pr fin hpr hfin=>?_)
   conv=>cbv
   refine ⟨hpr _ (ValOk.row (z:=i1) rfl rfl (fun _=>by first | rfl | (simp (disch:=omega) only [SB.den,SI.den,wrapN]<;>omega)) Tryz.underlying30 Tryz.sizeOf5 (by omega) hp g0 rfl (by simp)),hpr _ (ValOk.row (z:=i1) rfl rfl (fun _=>by first | rfl | (simp (disch:=omega) only [SB.den,SI.den,wrapN]<;>omega)) Tryz.underlying30 Tryz.sizeOf5 (by omega) hp g0 rfl (by simp)),hpr _ (ValOk.row (z:=i1) rfl rfl (fun _=>by first | rfl | (simp (disch:=omega) only [SB.den,SI.den,wrapN]<;>omega)) Tryz.underlying30 Tryz.sizeOf5 (by omega) hp g0 rfl (by simp)),hpr _ (ValOk.row (z:=i1) rfl rfl (fun _=>by first | rfl | (simp (disch:=omega) only [SB.den,SI.den,wrapN]<;>omega)) Tryz.underlying30 Tryz.sizeOf5 (by omega) hp g0 rfl (by simp)),hfin _ _ ?_⟩
   refine X.give1 (i:=i1) (r:=0) sd1 (by omega) hxi rfl g0 ?_
   refine X.back (fun N ac w' hN hf hS=>hqj () ac w' ?_)
   rw [hd2,←hij,swpZ_self (by omega)]
   exact At.again hf hS (by repeat first | exact trivial | refine ⟨⟨_,rfl,.inl ⟨rfl,rfl⟩⟩,?_⟩ | refine ⟨⟨_,rfl,.inr ⟨_,rfl,rfl⟩⟩,?_⟩ | refine ⟨⟨_,rfl,.inr ⟨_,rfl,(by first | (simp (disch:=omega) only [SV.den,SI.den,wrapN,Option.some.injEq,Value.int.injEq,true_and];done) | (simp (disch:=omega) only [SV.den,SI.den,wrapN,Option.some.injEq,Value.int.injEq,true_and];omega))⟩⟩,?_⟩) trivial
  ·refine X.take2 hA hn sd1 (i:=i1) (j:=j1) hij (by omega) (by omega) hxi hxj (by simp) (fun N1 _ hN1=>?_)
   have g0:((N1++[⟨b,y+i1,1⟩])++[⟨b,y+j1,1⟩]:Nums)[0]?=some ⟨b,y+i1,1⟩:=num_old (num_last hN1)
   have g1:((N1++[⟨b,y+i1,1⟩])++[⟨b,y+j1,1⟩]:Nums)[1]?=some ⟨b,y+j1,1⟩:=num_last (by simp [hN1])
   refine X.goP ([(87,.own 1 0),(91,.own 0 0),(93,.own 0 0),(94,.own 1 0)]) T122_ok 400 _ rfl Tryz.results122 (fun pr fin hpr hfin=>?_)
   conv=>cbv
   refine ⟨hpr _ (ValOk.row (z:=j1) rfl rfl (fun _=>by first | rfl | (simp (disch:=omega) only [SB.den,SI.den,wrapN]<;>omega)) Tryz.underlying30 Tryz.sizeOf5 (by omega) hp g1 rfl (by simp)),hpr _ (ValOk.row (z:=i1) rfl rfl (fun _=>by first | rfl | (simp (disch:=omega) only [SB.den,SI.den,wrapN]<;>omega)) Tryz.underlying30 Tryz.sizeOf5 (by omega) hp g0 rfl (by simp)),hpr _ (ValOk.row (z:=i1) rfl rfl (fun _=>by first | rfl | (simp (disch:=omega) only [SB.den,SI.den,wrapN]<;>omega)) Tryz.underlying30 Tryz.sizeOf5 (by omega) hp g0 rfl (by simp)),hpr _ (ValOk.row (z:=j1) rfl rfl (fun _=>by first | rfl | (simp (disch:=omega) only [SB.den,SI.den,wrapN]<;>omega)) Tryz.underlying30 Tryz.sizeOf5 (by omega) hp g1 rfl (by simp)),hfin _ _ ?_⟩
   refine X.give2 (i:=i1) (j:=j1) (r:=0) sd1 hij (by omega) (by omega) hxi hxj rfl rfl g0 g1 ?_
   refine X.back (fun N ac w' hN hf hS=>hqj () ac w' ?_)
   rw [hd2]
   exact At.again hf hS (by repeat first | exact trivial | refine ⟨⟨_,rfl,.inl ⟨rfl,rfl⟩⟩,?_⟩ | refine ⟨⟨_,rfl,.inr ⟨_,rfl,rfl⟩⟩,?_⟩ | refine ⟨⟨_,rfl,.inr ⟨_,rfl,(by first | (simp (disch:=omega) only [SV.den,SI.den,wrapN,Option.some.injEq,Value.int.injEq,true_and];done) | (simp (disch:=omega) only [SV.den,SI.den,wrapN,Option.some.injEq,Value.int.injEq,true_and];omega))⟩⟩,?_⟩) trivial
 have hij1:i1≠j1:=fun e=>by
  rcases xi1 with h | h
  ·omega
  ·rcases xj1 with h2 | h2
   ·omega
   ·rw [e,h2] at h;cases h
 refine X.go T122_ok 400 _ rfl Tryz.results122 ?_
 conv=>arg 2;cbv
 rw [←hd2] at hR1
 obtain ⟨R1,hR2⟩:∃ r,r=partLoop ltInt a (i1+1) (j1-1) d2:=⟨_,rfl⟩
 rw [←hR2] at hR1
 refine X.loop (fun g:{g:(Nat × Nat) × Array Int // g.2.size=n∧(a<g.1.1∧g.1.1≤g.1.2+1∧g.1.2<e)∧partLoop ltInt a g.1.1 g.1.2 g.2=R1}=>aE Tryz.prog Tryz.f122 _ w b y n (wm w) g.1.2 [] B122) (fun g=>⟨[(0,.val (.slv p n c)),(1,.val (.int .i64 (.nat a))),(10,.val (.int .i64 (.nat g.1.1.1))),(11,.val (.int .i64 (.nat g.1.1.2)))],[]⟩) (fun g=>g.1.1.2+1-g.1.1.1) (fun _=>⟨rfl,rfl,rfl,rfl⟩) (fun N ac w' hN hf hS=>⟨⟨((i1+1,j1-1),d2),sd2,by simp only;omega,hR2.symm⟩,?_⟩) (fun g qm hqm=>?_)
 ·exact At.again hf hS (by repeat first | exact trivial | refine ⟨⟨_,rfl,.inl ⟨rfl,rfl⟩⟩,?_⟩ | refine ⟨⟨_,rfl,.inr ⟨_,rfl,rfl⟩⟩,?_⟩ | refine ⟨⟨_,rfl,.inr ⟨_,rfl,(by first | (simp (disch:=omega) only [SV.den,SI.den,wrapN,Option.some.injEq,Value.int.injEq,true_and];done) | (simp (disch:=omega) only [SV.den,SI.den,wrapN,Option.some.injEq,Value.int.injEq,true_and];omega))⟩⟩,?_⟩) trivial
 obtain ⟨⟨⟨i2,j2⟩,d3⟩,sd3,⟨hg1,hg2,hg3⟩,hFi⟩:=g
 simp only at sd3 hg1 hg2 hg3 hFi
 show X (aE Tryz.prog Tryz.f122 _ w b y n (wm w) d3 [] B122) _ ⟨[(0,.val (.slv p n c)),(1,.val (.int .i64 (.nat a))),(10,.val (.int .i64 (.nat i2))),(11,.val (.int .i64 (.nat j2)))],[]⟩
 refine X.go T122_ok 400 _ rfl Tryz.results122 ?_
 conv=>arg 2;cbv
 obtain ⟨i30,hi3⟩:∃ k,k=scanUp (fun x=>ltInt x d3[a]!) d3 j2 i2:=⟨_,rfl⟩
 refine X.loop (fun _=>aE Tryz.prog Tryz.f122 _ w b y n (wm w) d3 [] B122) (fun g:{g:Nat // i2≤g∧g≤j2+1∧scanUp (fun x=>ltInt x d3[a]!) d3 j2 g=i30}=>⟨[(0,.val (.slv p n c)),(1,.val (.int .i64 (.nat a))),(10,.val (.int .i64 (.nat g.1))),(11,.val (.int .i64 (.nat j2)))],[]⟩) (fun g=>j2+1-g.1) (fun _=>⟨rfl,rfl,rfl,rfl⟩) (fun N ac w' hN hf hS=>⟨⟨i2,by omega,by omega,hi3.symm⟩,?_⟩) (fun g q hq=>?_)
 ·exact At.again hf hS (by repeat first | exact trivial | refine ⟨⟨_,rfl,.inl ⟨rfl,rfl⟩⟩,?_⟩ | refine ⟨⟨_,rfl,.inr ⟨_,rfl,rfl⟩⟩,?_⟩ | refine ⟨⟨_,rfl,.inr ⟨_,rfl,(by first | (simp (disch:=omega) only [SV.den,SI.den,wrapN,Option.some.injEq,Value.int.injEq,true_and];done) | (simp (disch:=omega) only [SV.den,SI.den,wrapN,Option.some.injEq,Value.int.injEq,true_and];omega))⟩⟩,?_⟩) trivial
 obtain ⟨i3,hu1i3,hu2i3,hu3⟩:=g
 obtain ⟨xu,hxu⟩:∃ x,d3[i3]! = x:=⟨_,rfl⟩
 obtain ⟨xa,hxa⟩:∃ x,d3[a]! = x:=⟨_,rfl⟩
 obtain ⟨t,ht⟩:∃ t,t=ltInt xu xa:=⟨_,rfl⟩
 obtain ⟨ou,hou⟩:∃ o,o=y+i3:=⟨_,rfl⟩
 obtain ⟨oa,hoa⟩:∃ o,o=y+a:=⟨_,rfl⟩
 show X (aE Tryz.prog Tryz.f122 _ w b y n (wm w) d3 [] B122) _ ⟨[(0,.val (.slv p n c)),(1,.val (.int .i64 (.nat a))),(10,.val (.int .i64 (.nat i3))),(11,.val (.int .i64 (.nat j2)))],[]⟩
 refine X.goP ([(105,.ext b ou 0),(106,.int .u8 (.v xu)),(109,.ext b oa 0),(110,.int .u8 (.v xa)),(111,.bool (.v t))]) T122_ok 400 _ rfl Tryz.results122 (fun pr fin hpr hfin=>?_)
 conv=>cbv
 refine ⟨hpr _ (less_call rfl ht),hpr _ (ValOk.im1 rfl Tryz.isAgg5 (fun _=>rfl) fun hT=>(by have hT:_=true:=hT;simp [SB.den,SI.den] at hT;(try replace hT:=of_decide_eq_true hT);(try simp (disch:=omega) only [SI.den,wrapN] at hT);rw [←hxa,hoa];exact arrM_in (by omega))),hpr _ (ValOk.im1 rfl Tryz.isAgg5 (fun _=>rfl) fun hT=>(by have hT:_=true:=hT;simp [SB.den,SI.den] at hT;(try replace hT:=of_decide_eq_true hT);(try simp (disch:=omega) only [SI.den,wrapN] at hT);rw [←hxu,hou];exact arrM_in (by omega))),hpr _ (ValOk.at (z:=a) rfl rfl (fun hT=>by have hT:_=true:=hT;simp [SB.den,SI.den] at hT;(try replace hT:=of_decide_eq_true hT);(try simp (disch:=omega) only [SI.den,wrapN] at hT);first | omega | (simp (disch:=omega) only [SI.den,wrapN]<;>omega)) Tryz.underlying30 Tryz.sizeOf5 (fun hT=>by have hT:_=true:=hT;simp [SB.den,SI.den] at hT;(try replace hT:=of_decide_eq_true hT);(try simp (disch:=omega) only [SI.den,wrapN] at hT);first | omega | (simp (disch:=omega) only [SI.den,wrapN]<;>omega)) hp (by omega)),hpr _ (ValOk.at (z:=i3) rfl rfl (fun hT=>by have hT:_=true:=hT;simp [SB.den,SI.den] at hT;(try replace hT:=of_decide_eq_true hT);(try simp (disch:=omega) only [SI.den,wrapN] at hT);first | omega | (simp (disch:=omega) only [SI.den,wrapN]<;>omega)) Tryz.underlying30 Tryz.sizeOf5 (fun hT=>by have hT:_=true:=hT;simp [SB.den,SI.den] at hT;(try replace hT:=of_decide_eq_true hT);(try simp (disch:=omega) only [SI.den,wrapN] at hT);first | omega | (simp (disch:=omega) only [SI.den,wrapN]<;>omega)) hp (by omega)),hfin _ _ ?_⟩
 refine X.cond rfl (fun hc=>?_) (fun hc=>?_)
 ·simp only [SB.T,SB.F,SI.den] at hc
  obtain ⟨hc1,hc2⟩:=hc
  refine X.go T122_ok 400 _ rfl Tryz.results122 ?_
  conv=>arg 2;cbv
  refine X.back (fun N ac w' hN hf hS=>hq ⟨i3+1,by omega,by omega,?_⟩ ac w' (by simp only;omega) ?_)
  ·rw [←hu3];conv=>rhs;rw [scanUp,if_pos (by rw [hxu,hxa,←ht,hc2];simp;omega)]
  ·exact At.again hf hS (by repeat first | exact trivial | refine ⟨⟨_,rfl,.inl ⟨rfl,rfl⟩⟩,?_⟩ | refine ⟨⟨_,rfl,.inr ⟨_,rfl,rfl⟩⟩,?_⟩ | refine ⟨⟨_,rfl,.inr ⟨_,rfl,(by first | (simp (disch:=omega) only [SV.den,SI.den,wrapN,Option.some.injEq,Value.int.injEq,true_and];done) | (simp (disch:=omega) only [SV.den,SI.den,wrapN,Option.some.injEq,Value.int.injEq,true_and];omega))⟩⟩,?_⟩) trivial
 simp only [SB.T,SB.F,SI.den] at hc
 rw [scanUp,if_neg (by rw [hxu,hxa,←ht];rcases hc with h | h;simp;omega;simp [h])] at hu3
 have xi3:i3 > j2∨ltInt d3[i3]! d3[a]! = false:=by
  rcases hc with h | h
  ·left;omega
  ·right;rw [hxu,hxa,←ht];exact h
 subst hu3
 clear hc hxu hxa ht hou hoa hq
 refine X.go T122_ok 400 _ rfl Tryz.results122 ?_
 conv=>arg 2;cbv
 obtain ⟨j30,hj3⟩:∃ k,k=scanDown (fun x=>!ltInt x d3[a]!) d3 i3 j2:=⟨_,rfl⟩
 refine X.loop (fun _=>aE Tryz.prog Tryz.f122 _ w b y n (wm w) d3 [] B122) (fun g:{g:Nat // g≤j2∧i3≤g+1∧scanDown (fun x=>!ltInt x d3[a]!) d3 i3 g=j30}=>⟨[(0,.val (.slv p n c)),(1,.val (.int .i64 (.nat a))),(10,.val (.int .i64 (.nat i3))),(11,.val (.int .i64 (.nat g.1)))],[]⟩) (fun g=>g.1) (fun _=>⟨rfl,rfl,rfl,rfl⟩) (fun N ac w' hN hf hS=>⟨⟨j2,by omega,by omega,hj3.symm⟩,?_⟩) (fun g q hq=>?_)
 ·exact At.again hf hS (by repeat first | exact trivial | refine ⟨⟨_,rfl,.inl ⟨rfl,rfl⟩⟩,?_⟩ | refine ⟨⟨_,rfl,.inr ⟨_,rfl,rfl⟩⟩,?_⟩ | refine ⟨⟨_,rfl,.inr ⟨_,rfl,(by first | (simp (disch:=omega) only [SV.den,SI.den,wrapN,Option.some.injEq,Value.int.injEq,true_and];done) | (simp (disch:=omega) only [SV.den,SI.den,wrapN,Option.some.injEq,Value.int.injEq,true_and];omega))⟩⟩,?_⟩) trivial
 obtain ⟨j3,hu1j3,hu2j3,hu3⟩:=g
 obtain ⟨xu,hxu⟩:∃ x,d3[j3]! = x:=⟨_,rfl⟩
 obtain ⟨xa,hxa⟩:∃ x,d3[a]! = x:=⟨_,rfl⟩
 obtain ⟨t,ht⟩:∃ t,t=ltInt xu xa:=⟨_,rfl⟩
 obtain ⟨ou,hou⟩:∃ o,o=y+j3:=⟨_,rfl⟩
 obtain ⟨oa,hoa⟩:∃ o,o=y+a:=⟨_,rfl⟩
 show X (aE Tryz.prog Tryz.f122 _ w b y n (wm w) d3 [] B122) _ ⟨[(0,.val (.slv p n c)),(1,.val (.int .i64 (.nat a))),(10,.val (.int .i64 (.nat i3))),(11,.val (.int .i64 (.nat j3)))],[]⟩
 refine X.goP ([(121,.ext b ou 0),(122,.int .u8 (.v xu)),(125,.ext b oa 0),(126,.int .u8 (.v xa)),(127,.bool (.v t))]) T122_ok 400 _ rfl Tryz.results122 (fun pr fin hpr hfin=>?_)
 conv=>cbv
 refine ⟨hpr _ (less_call rfl ht),hpr _ (ValOk.im1 rfl Tryz.isAgg5 (fun _=>rfl) fun hT=>(by have hT:_=true:=hT;simp [SB.den,SI.den] at hT;(try replace hT:=of_decide_eq_true hT);(try simp (disch:=omega) only [SI.den,wrapN] at hT);rw [←hxa,hoa];exact arrM_in (by omega))),hpr _ (ValOk.im1 rfl Tryz.isAgg5 (fun _=>rfl) fun hT=>(by have hT:_=true:=hT;simp [SB.den,SI.den] at hT;(try replace hT:=of_decide_eq_true hT);(try simp (disch:=omega) only [SI.den,wrapN] at hT);rw [←hxu,hou];exact arrM_in (by omega))),hpr _ (ValOk.at (z:=a) rfl rfl (fun hT=>by have hT:_=true:=hT;simp [SB.den,SI.den] at hT;(try replace hT:=of_decide_eq_true hT);(try simp (disch:=omega) only [SI.den,wrapN] at hT);first | omega | (simp (disch:=omega) only [SI.den,wrapN]<;>omega)) Tryz.underlying30 Tryz.sizeOf5 (fun hT=>by have hT:_=true:=hT;simp [SB.den,SI.den] at hT;(try replace hT:=of_decide_eq_true hT);(try simp (disch:=omega) only [SI.den,wrapN] at hT);first | omega | (simp (disch:=omega) only [SI.den,wrapN]<;>omega)) hp (by omega)),hpr _ (ValOk.at (z:=j3) rfl rfl (fun hT=>by have hT:_=true:=hT;simp [SB.den,SI.den] at hT;(try replace hT:=of_decide_eq_true hT);(try simp (disch:=omega) only [SI.den,wrapN] at hT);first | omega | (simp (disch:=omega) only [SI.den,wrapN]<;>omega)) Tryz.underlying30 Tryz.sizeOf5 (fun hT=>by have hT:_=true:=hT;simp [SB.den,SI.den] at hT;(try replace hT:=of_decide_eq_true hT);(try simp (disch:=omega) only [SI.den,wrapN] at hT);first | omega | (simp (disch:=omega) only [SI.den,wrapN]<;>omega)) hp (by omega)),hfin _ _ ?_⟩
 refine X.cond rfl (fun hc=>?_) (fun hc=>?_)
 ·simp only [SB.T,SB.F,SI.den] at hc
  obtain ⟨hc1,hc2⟩:=hc
  refine X.go T122_ok 400 _ rfl Tryz.results122 ?_
  conv=>arg 2;cbv
  refine X.back (fun N ac w' hN hf hS=>hq ⟨j3-1,by omega,by omega,?_⟩ ac w' (by simp only;omega) ?_)
  ·obtain ⟨v,rfl⟩:∃ v,j3=v+1:=⟨j3-1,by omega⟩
   rw [←hu3];conv=>rhs;rw [scanDown,if_pos (by rw [hxu,hxa,←ht,hc2];simp;omega)]
   rfl
  ·exact At.again hf hS (by repeat first | exact trivial | refine ⟨⟨_,rfl,.inl ⟨rfl,rfl⟩⟩,?_⟩ | refine ⟨⟨_,rfl,.inr ⟨_,rfl,rfl⟩⟩,?_⟩ | refine ⟨⟨_,rfl,.inr ⟨_,rfl,(by first | (simp (disch:=omega) only [SV.den,SI.den,wrapN,Option.some.injEq,Value.int.injEq,true_and];done) | (simp (disch:=omega) only [SV.den,SI.den,wrapN,Option.some.injEq,Value.int.injEq,true_and];omega))⟩⟩,?_⟩) trivial
 simp only [SB.T,SB.F,SI.den] at hc
 have hu3:j3=j30:=by
  cases j3 with
  | zero=>rw [←hu3];rfl
  | succ v=>rw [←hu3,scanDown,if_neg (by rw [hxu,hxa,←ht];rcases hc with h | h;simp;omega;simp [h])]
 have xj3:i3 > j3∨ltInt d3[j3]! d3[a]! = true:=by
  rcases hc with h | h
  ·left;omega
  ·right;rw [hxu,hxa,←ht];exact h
 subst hu3
 clear hc hxu hxa ht hou hoa hq
 refine X.go T122_ok 400 _ rfl Tryz.results122 ?_
 conv=>arg 2;cbv
 rw [partLoop_eq,←hi3,←hj3] at hFi
 refine X.cond rfl (fun hgt=>?_) (fun hle3=>?_)
 ·simp only [SB.T,SI.den] at hgt
  rw [if_pos (by omega)] at hFi
  refine X.go T122_ok 400 _ rfl Tryz.results122 ?_
  conv=>arg 2;cbv
  obtain ⟨d4,hd4⟩:∃ x,x=swp d3 j3 a:=⟨_,rfl⟩
  have sd4:d4.size=n:=by rw [hd4,swpZ_size];exact sd3
  refine X.join (ι:=Unit) (fun _=>aE Tryz.prog Tryz.f122 _ w b y n (wm w) d4 [] B122) (fun _=>⟨[(0,.val (.slv p n c)),(1,.val (.int .i64 (.nat a))),(11,.val (.int .i64 (.nat j3)))],[]⟩) (fun _=>⟨rfl,rfl,rfl⟩) (fun qj hqj=>?_) (fun _=>?_)
  ·obtain ⟨xi,hxi⟩:∃ x,d3[j3]! = x:=⟨_,rfl⟩
   obtain ⟨xj,hxj⟩:∃ x,d3[a]! = x:=⟨_,rfl⟩
   by_cases hij:j3=a
   ·refine X.take1 hA hn sd3 (i:=j3) (by omega) hxi (by simp) (fun N1 _ hN1=>?_)
    have g0:(N1++[⟨b,y+j3,1⟩]:Nums)[0]?=some ⟨b,y+j3,1⟩:=num_last hN1
    refine X.goP ([(159,.own 0 0),(163,.own 0 0),(165,.own 0 0),(166,.own 0 0)]) T122_ok 400 _ rfl Tryz.results122 (fun pr fin hpr hfin=>?_)
    conv=>cbv
    refine ⟨hpr _ (ValOk.row (z:=j3) rfl rfl (fun _=>by first | rfl | (simp (disch:=omega) only [SB.den,SI.den,wrapN]<;>omega)) Tryz.underlying30 Tryz.sizeOf5 (by omega) hp g0 rfl (by simp)),hpr _ (ValOk.row (z:=j3) rfl rfl (fun _=>by first | rfl | (simp (disch:=omega) only [SB.den,SI.den,wrapN]<;>omega)) Tryz.underlying30 Tryz.sizeOf5 (by omega) hp g0 rfl (by simp)),hpr _ (ValOk.row (z:=j3) rfl rfl (fun _=>by first | rfl | (simp (disch:=omega) only [SB.den,SI.den,wrapN]<;>omega)) Tryz.underlying30 Tryz.sizeOf5 (by omega) hp g0 rfl (by simp)),hpr _ (ValOk.row (z:=j3) rfl rfl (fun _=>by first | rfl | (simp (disch:=omega) only [SB.den,SI.den,wrapN]<;>omega)) Tryz.underlying30 Tryz.sizeOf5 (by omega) hp g0 rfl (by simp)),hfin _ _ ?_⟩
    refine X.give1 (i:=j3) (r:=0) sd3 (by omega) hxi rfl g0 ?_
    refine X.back (fun N ac w' hN hf hS=>hqj () ac w' ?_)
    rw [hd4,←hij,swpZ_self (by omega)]
    exact At.again hf hS (by repeat first | exact trivial | refine ⟨⟨_,rfl,.inl ⟨rfl,rfl⟩⟩,?_⟩ | refine ⟨⟨_,rfl,.inr ⟨_,rfl,rfl⟩⟩,?_⟩ | refine ⟨⟨_,rfl,.inr ⟨_,rfl,(by first | (simp (disch:=omega) only [SV.den,SI.den,wrapN,Option.some.injEq,Value.int.injEq,true_and];done) | (simp (disch:=omega) only [SV.den,SI.den,wrapN,Option.some.injEq,Value.int.injEq,true_and];omega))⟩⟩,?_⟩) trivial
   ·refine X.take2 hA hn sd3 (i:=j3) (j:=a) hij (by omega) (by omega) hxi hxj (by simp) (fun N1 _ hN1=>?_)
    have g0:((N1++[⟨b,y+j3,1⟩])++[⟨b,y+a,1⟩]:Nums)[0]?=some ⟨b,y+j3,1⟩:=num_old (num_last hN1)
    have g1:((N1++[⟨b,y+j3,1⟩])++[⟨b,y+a,1⟩]:Nums)[1]?=some ⟨b,y+a,1⟩:=num_last (by simp [hN1])
    refine X.goP ([(159,.own 1 0),(163,.own 0 0),(165,.own 0 0),(166,.own 1 0)]) T122_ok 400 _ rfl Tryz.results122 (fun pr fin hpr hfin=>?_)
    conv=>cbv
    refine ⟨hpr _ (ValOk.row (z:=a) rfl rfl (fun _=>by first | rfl | (simp (disch:=omega) only [SB.den,SI.den,wrapN]<;>omega)) Tryz.underlying30 Tryz.sizeOf5 (by omega) hp g1 rfl (by simp)),hpr _ (ValOk.row (z:=j3) rfl rfl (fun _=>by first | rfl | (simp (disch:=omega) only [SB.den,SI.den,wrapN]<;>omega)) Tryz.underlying30 Tryz.sizeOf5 (by omega) hp g0 rfl (by simp)),hpr _ (ValOk.row (z:=j3) rfl rfl (fun _=>by first | rfl | (simp (disch:=omega) only [SB.den,SI.den,wrapN]<;>omega)) Tryz.underlying30 Tryz.sizeOf5 (by omega) hp g0 rfl (by simp)),hpr _ (ValOk.row (z:=a) rfl rfl (fun _=>by first | rfl | (simp (disch:=omega) only [SB.den,SI.den,wrapN]<;>omega)) Tryz.underlying30 Tryz.sizeOf5 (by omega) hp g1 rfl (by simp)),hfin _ _ ?_⟩
    refine X.give2 (i:=j3) (j:=a) (r:=0) sd3 hij (by omega) (by omega) hxi hxj rfl rfl g0 g1 ?_
    refine X.back (fun N ac w' hN hf hS=>hqj () ac w' ?_)
    rw [hd4]
    exact At.again hf hS (by repeat first | exact trivial | refine ⟨⟨_,rfl,.inl ⟨rfl,rfl⟩⟩,?_⟩ | refine ⟨⟨_,rfl,.inr ⟨_,rfl,rfl⟩⟩,?_⟩ | refine ⟨⟨_,rfl,.inr ⟨_,rfl,(by first | (simp (disch:=omega) only [SV.den,SI.den,wrapN,Option.some.injEq,Value.int.injEq,true_and];done) | (simp (disch:=omega) only [SV.den,SI.den,wrapN,Option.some.injEq,Value.int.injEq,true_and];omega))⟩⟩,?_⟩) trivial
  refine X.go T122_ok 400 _ rfl Tryz.results122 ?_
  conv=>arg 2;cbv
  refine X.done T122_ok rfl (fun N w' v hN hS hv=>⟨?_,?_⟩)
  ·simp only [resV,SV.den,SV.denL,SI.den,SB.den,Option.some.injEq] at hv
   rw [←hv,hR1,←hFi]
  ·rw [hR1,←hFi,←hd4]
   exact Sat.arr hS hA hn sd4
 simp only [SB.F,SI.den] at hle3
 rw [if_neg (by omega)] at hFi
 refine X.go T122_ok 400 _ rfl Tryz.results122 ?_
 conv=>arg 2;cbv
 obtain ⟨d4,hd4⟩:∃ x,x=swp d3 i3 j3:=⟨_,rfl⟩
 have sd4:d4.size=n:=by rw [hd4,swpZ_size];exact sd3
 refine X.join (ι:=Unit) (fun _=>aE Tryz.prog Tryz.f122 _ w b y n (wm w) d4 [] B122) (fun _=>⟨[(0,.val (.slv p n c)),(1,.val (.int .i64 (.nat a))),(10,.val (.int .i64 (.nat i3))),(11,.val (.int .i64 (.nat j3)))],[]⟩) (fun _=>⟨rfl,rfl,rfl⟩) (fun qj hqj=>?_) (fun _=>?_)
 ·obtain ⟨xi,hxi⟩:∃ x,d3[i3]! = x:=⟨_,rfl⟩
  obtain ⟨xj,hxj⟩:∃ x,d3[j3]! = x:=⟨_,rfl⟩
  by_cases hij:i3=j3
  ·refine X.take1 hA hn sd3 (i:=i3) (by omega) hxi (by simp) (fun N1 _ hN1=>?_)
   have g0:(N1++[⟨b,y+i3,1⟩]:Nums)[0]?=some ⟨b,y+i3,1⟩:=num_last hN1
   refine X.goP ([(141,.own 0 0),(145,.own 0 0),(147,.own 0 0),(148,.own 0 0)]) T122_ok 400 _ rfl Tryz.results122 (fun pr fin hpr hfin=>?_)
   conv=>cbv
   refine ⟨hpr _ (ValOk.row (z:=i3) rfl rfl (fun _=>by first | rfl | (simp (disch:=omega) only [SB.den,SI.den,wrapN]<;>omega)) Tryz.underlying30 Tryz.sizeOf5 (by omega) hp g0 rfl (by simp)),hpr _ (ValOk.row (z:=i3) rfl rfl (fun _=>by first | rfl | (simp (disch:=omega) only [SB.den,SI.den,wrapN]<;>omega)) Tryz.underlying30 Tryz.sizeOf5 (by omega) hp g0 rfl (by simp)),hpr _ (ValOk.row (z:=i3) rfl rfl (fun _=>by first | rfl | (simp (disch:=omega) only [SB.den,SI.den,wrapN]<;>omega)) Tryz.underlying30 Tryz.sizeOf5 (by omega) hp g0 rfl (by simp)),hpr _ (ValOk.row (z:=i3) rfl rfl (fun _=>by first | rfl | (simp (disch:=omega) only [SB.den,SI.den,wrapN]<;>omega)) Tryz.underlying30 Tryz.sizeOf5 (by omega) hp g0 rfl (by simp)),hfin _ _ ?_⟩
   refine X.give1 (i:=i3) (r:=0) sd3 (by omega) hxi rfl g0 ?_
   refine X.back (fun N ac w' hN hf hS=>hqj () ac w' ?_)
   rw [hd4,←hij,swpZ_self (by omega)]
   exact At.again hf hS (by repeat first | exact trivial | refine ⟨⟨_,rfl,.inl ⟨rfl,rfl⟩⟩,?_⟩ | refine ⟨⟨_,rfl,.inr ⟨_,rfl,rfl⟩⟩,?_⟩ | refine ⟨⟨_,rfl,.inr ⟨_,rfl,(by first | (simp (disch:=omega) only [SV.den,SI.den,wrapN,Option.some.injEq,Value.int.injEq,true_and];done) | (simp (disch:=omega) only [SV.den,SI.den,wrapN,Option.some.injEq,Value.int.injEq,true_and];omega))⟩⟩,?_⟩) trivial
  ·refine X.take2 hA hn sd3 (i:=i3) (j:=j3) hij (by omega) (by omega) hxi hxj (by simp) (fun N1 _ hN1=>?_)
   have g0:((N1++[⟨b,y+i3,1⟩])++[⟨b,y+j3,1⟩]:Nums)[0]?=some ⟨b,y+i3,1⟩:=num_old (num_last hN1)
   have g1:((N1++[⟨b,y+i3,1⟩])++[⟨b,y+j3,1⟩]:Nums)[1]?=some ⟨b,y+j3,1⟩:=num_last (by simp [hN1])
   refine X.goP ([(141,.own 1 0),(145,.own 0 0),(147,.own 0 0),(148,.own 1 0)]) T122_ok 400 _ rfl Tryz.results122 (fun pr fin hpr hfin=>?_)
   conv=>cbv
   refine ⟨hpr _ (ValOk.row (z:=j3) rfl rfl (fun _=>by first | rfl | (simp (disch:=omega) only [SB.den,SI.den,wrapN]<;>omega)) Tryz.underlying30 Tryz.sizeOf5 (by omega) hp g1 rfl (by simp)),hpr _ (ValOk.row (z:=i3) rfl rfl (fun _=>by first | rfl | (simp (disch:=omega) only [SB.den,SI.den,wrapN]<;>omega)) Tryz.underlying30 Tryz.sizeOf5 (by omega) hp g0 rfl (by simp)),hpr _ (ValOk.row (z:=i3) rfl rfl (fun _=>by first | rfl | (simp (disch:=omega) only [SB.den,SI.den,wrapN]<;>omega)) Tryz.underlying30 Tryz.sizeOf5 (by omega) hp g0 rfl (by simp)),hpr _ (ValOk.row (z:=j3) rfl rfl (fun _=>by first | rfl | (simp (disch:=omega) only [SB.den,SI.den,wrapN]<;>omega)) Tryz.underlying30 Tryz.sizeOf5 (by omega) hp g1 rfl (by simp)),hfin _ _ ?_⟩
   refine X.give2 (i:=i3) (j:=j3) (r:=0) sd3 hij (by omega) (by omega) hxi hxj rfl rfl g0 g1 ?_
   refine X.back (fun N ac w' hN hf hS=>hqj () ac w' ?_)
   rw [hd4]
   exact At.again hf hS (by repeat first | exact trivial | refine ⟨⟨_,rfl,.inl ⟨rfl,rfl⟩⟩,?_⟩ | refine ⟨⟨_,rfl,.inr ⟨_,rfl,rfl⟩⟩,?_⟩ | refine ⟨⟨_,rfl,.inr ⟨_,rfl,(by first | (simp (disch:=omega) only [SV.den,SI.den,wrapN,Option.some.injEq,Value.int.injEq,true_and];done) | (simp (disch:=omega) only [SV.den,SI.den,wrapN,Option.some.injEq,Value.int.injEq,true_and];omega))⟩⟩,?_⟩) trivial
 have hij3:i3≠j3:=fun e=>by
  rcases xi3 with h | h
  ·omega
  ·rcases xj3 with h2 | h2
   ·omega
   ·rw [e,h2] at h;cases h
 refine X.go T122_ok 400 _ rfl Tryz.results122 ?_
 conv=>arg 2;cbv
 refine X.back (fun N ac w' hN hf hS=>hqm ⟨((i3+1,j3-1),d4),sd4,by simp only;omega,?_⟩ ac w' (by simp only;omega) ?_)
 ·rw [←hFi,hd4]
 ·exact At.again hf hS (by repeat first | exact trivial | refine ⟨⟨_,rfl,.inl ⟨rfl,rfl⟩⟩,?_⟩ | refine ⟨⟨_,rfl,.inr ⟨_,rfl,rfl⟩⟩,?_⟩ | refine ⟨⟨_,rfl,.inr ⟨_,rfl,(by first | (simp (disch:=omega) only [SV.den,SI.den,wrapN,Option.some.injEq,Value.int.injEq,true_and];done) | (simp (disch:=omega) only [SV.den,SI.den,wrapN,Option.some.injEq,Value.int.injEq,true_and];omega))⟩⟩,?_⟩) trivial
theorem partEq8_ok (b y n c a e pv:Nat) (d:Array Int) (w:World) (hA:AtA w b y d) (hn:d.size=n) (hap:a≤pv) (hpe:pv<e) (hen:e≤n) (hbig:n<4611686018427387904) :
  Calls Tryz.prog 121 #[.slice (some ⟨b,y,none⟩) n c,.int .i64 a,.int .i64 e,.int .i64 pv] w fun en w'=>en=.returned (.int .i64 (partitionEqual ltInt d a e pv).1)∧AtA w' b y (partitionEqual ltInt d a e pv).2∧Chg (arrD b y n) w w':=by
 obtain ⟨R,hR⟩:∃ R,R=partitionEqual ltInt d a e pv:=⟨_,rfl⟩
 rw [←hR]
 obtain ⟨p,hp⟩:∃ p,p=some (Addr.mk b y none):=⟨_,rfl⟩
 rw [←hp]
 have sd:=hn
 refine X.beginA hA hn (ss:=[.slv p n c,.int .i64 (.nat a),.int .i64 (.nat e),.int .i64 (.nat pv)]) Tryz.func121 rfl B121_ok rfl rfl ?_
 refine X.go T121_ok 400 _ rfl Tryz.results121 ?_
 conv=>arg 2;cbv
 obtain ⟨d1,hd1⟩:∃ x,x=swp d a pv:=⟨_,rfl⟩
 have sd1:d1.size=n:=by rw [hd1,swpZ_size];exact sd
 refine X.join (ι:=Unit) (fun _=>aE Tryz.prog Tryz.f121 _ w b y n (wm w) d1 [] B121) (fun _=>⟨[(0,.val (.slv p n c)),(1,.val (.int .i64 (.nat a))),(2,.val (.int .i64 (.nat e)))],[]⟩) (fun _=>⟨rfl,rfl,rfl⟩) (fun qj hqj=>?_) (fun _=>?_)
 ·obtain ⟨xi,hxi⟩:∃ x,d[a]! = x:=⟨_,rfl⟩
  obtain ⟨xj,hxj⟩:∃ x,d[pv]! = x:=⟨_,rfl⟩
  by_cases hij:a=pv
  ·refine X.take1 hA hn sd (i:=a) (by omega) hxi (by simp) (fun N1 _ hN1=>?_)
   have g0:(N1++[⟨b,y+a,1⟩]:Nums)[0]?=some ⟨b,y+a,1⟩:=num_last hN1
   refine X.goP ([(17,.own 0 0),(21,.own 0 0),(23,.own 0 0),(24,.own 0 0)]) T121_ok 400 _ rfl Tryz.results121 (fun pr fin hpr hfin=>?_)
   conv=>cbv
   refine ⟨hpr _ (ValOk.row (z:=a) rfl rfl (fun _=>by first | rfl | (simp (disch:=omega) only [SB.den,SI.den,wrapN]<;>omega)) Tryz.underlying30 Tryz.sizeOf5 (by omega) hp g0 rfl (by simp)),hpr _ (ValOk.row (z:=a) rfl rfl (fun _=>by first | rfl | (simp (disch:=omega) only [SB.den,SI.den,wrapN]<;>omega)) Tryz.underlying30 Tryz.sizeOf5 (by omega) hp g0 rfl (by simp)),hpr _ (ValOk.row (z:=a) rfl rfl (fun _=>by first | rfl | (simp (disch:=omega) only [SB.den,SI.den,wrapN]<;>omega)) Tryz.underlying30 Tryz.sizeOf5 (by omega) hp g0 rfl (by simp)),hpr _ (ValOk.row (z:=a) rfl rfl (fun _=>by first | rfl | (simp (disch:=omega) only [SB.den,SI.den,wrapN]<;>omega)) Tryz.underlying30 Tryz.sizeOf5 (by omega) hp g0 rfl (by simp)),hfin _ _ ?_⟩
   refine X.give1 (i:=a) (r:=0) sd (by omega) hxi rfl g0 ?_
   refine X.back (fun N ac w' hN hf hS=>hqj () ac w' ?_)
   rw [hd1,←hij,swpZ_self (by omega)]
   exact At.again hf hS (by repeat first | exact trivial | refine ⟨⟨_,rfl,.inl ⟨rfl,rfl⟩⟩,?_⟩ | refine ⟨⟨_,rfl,.inr ⟨_,rfl,rfl⟩⟩,?_⟩ | refine ⟨⟨_,rfl,.inr ⟨_,rfl,(by first | (simp (disch:=omega) only [SV.den,SI.den,wrapN,Option.some.injEq,Value.int.injEq,true_and];done) | (simp (disch:=omega) only [SV.den,SI.den,wrapN,Option.some.injEq,Value.int.injEq,true_and];omega))⟩⟩,?_⟩) trivial
  ·refine X.take2 hA hn sd (i:=a) (j:=pv) hij (by omega) (by omega) hxi hxj (by simp) (fun N1 _ hN1=>?_)
   have g0:((N1++[⟨b,y+a,1⟩])++[⟨b,y+pv,1⟩]:Nums)[0]?=some ⟨b,y+a,1⟩:=num_old (num_last hN1)
   have g1:((N1++[⟨b,y+a,1⟩])++[⟨b,y+pv,1⟩]:Nums)[1]?=some ⟨b,y+pv,1⟩:=num_last (by simp [hN1])
   refine X.goP ([(17,.own 1 0),(21,.own 0 0),(23,.own 0 0),(24,.own 1 0)]) T121_ok 400 _ rfl Tryz.results121 (fun pr fin hpr hfin=>?_)
   conv=>cbv
   refine ⟨hpr _ (ValOk.row (z:=pv) rfl rfl (fun _=>by first | rfl | (simp (disch:=omega) only [SB.den,SI.den,wrapN]<;>omega)) Tryz.underlying30 Tryz.sizeOf5 (by omega) hp g1 rfl (by simp)),hpr _ (ValOk.row (z:=a) rfl rfl (fun _=>by first | rfl | (simp (disch:=omega) only [SB.den,SI.den,wrapN]<;>omega)) Tryz.underlying30 Tryz.sizeOf5 (by omega) hp g0 rfl (by simp)),hpr _ (ValOk.row (z:=a) rfl rfl (fun _=>by first | rfl | (simp (disch:=omega) only [SB.den,SI.den,wrapN]<;>omega)) Tryz.underlying30 Tryz.sizeOf5 (by omega) hp g0 rfl (by simp)),hpr _ (ValOk.row (z:=pv) rfl rfl (fun _=>by first | rfl | (simp (disch:=omega) only [SB.den,SI.den,wrapN]<;>omega)) Tryz.underlying30 Tryz.sizeOf5 (by omega) hp g1 rfl (by simp)),hfin _ _ ?_⟩
   refine X.give2 (i:=a) (j:=pv) (r:=0) sd hij (by omega) (by omega) hxi hxj rfl rfl g0 g1 ?_
   refine X.back (fun N ac w' hN hf hS=>hqj () ac w' ?_)
   rw [hd1]
   exact At.again hf hS (by repeat first | exact trivial | refine ⟨⟨_,rfl,.inl ⟨rfl,rfl⟩⟩,?_⟩ | refine ⟨⟨_,rfl,.inr ⟨_,rfl,rfl⟩⟩,?_⟩ | refine ⟨⟨_,rfl,.inr ⟨_,rfl,(by first | (simp (disch:=omega) only [SV.den,SI.den,wrapN,Option.some.injEq,Value.int.injEq,true_and];done) | (simp (disch:=omega) only [SV.den,SI.den,wrapN,Option.some.injEq,Value.int.injEq,true_and];omega))⟩⟩,?_⟩) trivial
 refine X.go T121_ok 400 _ rfl Tryz.results121 ?_
 conv=>arg 2;cbv
 unfold partitionEqual at hR
 rw [←hd1] at hR
 refine X.loop (fun g:{g:(Nat × Nat) × Array Int // g.2.size=n∧(a<g.1.1∧g.1.1≤g.1.2+1∧g.1.2<e)∧partEqLoop ltInt a g.1.1 g.1.2 g.2=R}=>aE Tryz.prog Tryz.f121 _ w b y n (wm w) g.1.2 [] B121) (fun g=>⟨[(0,.val (.slv p n c)),(1,.val (.int .i64 (.nat a))),(9,.val (.int .i64 (.nat g.1.1.1))),(10,.val (.int .i64 (.nat g.1.1.2)))],[]⟩) (fun g=>g.1.1.2+1-g.1.1.1) (fun _=>⟨rfl,rfl,rfl,rfl⟩) (fun N ac w' hN hf hS=>⟨⟨((a+1,e-1),d1),sd1,by simp only;omega,hR.symm⟩,?_⟩) (fun g qm hqm=>?_)
 ·exact At.again hf hS (by repeat first | exact trivial | refine ⟨⟨_,rfl,.inl ⟨rfl,rfl⟩⟩,?_⟩ | refine ⟨⟨_,rfl,.inr ⟨_,rfl,rfl⟩⟩,?_⟩ | refine ⟨⟨_,rfl,.inr ⟨_,rfl,(by first | (simp (disch:=omega) only [SV.den,SI.den,wrapN,Option.some.injEq,Value.int.injEq,true_and];done) | (simp (disch:=omega) only [SV.den,SI.den,wrapN,Option.some.injEq,Value.int.injEq,true_and];omega))⟩⟩,?_⟩) trivial
 obtain ⟨⟨⟨i2,j2⟩,d3⟩,sd3,⟨hg1,hg2,hg3⟩,hFi⟩:=g
 simp only at sd3 hg1 hg2 hg3 hFi
 show X (aE Tryz.prog Tryz.f121 _ w b y n (wm w) d3 [] B121) _ ⟨[(0,.val (.slv p n c)),(1,.val (.int .i64 (.nat a))),(9,.val (.int .i64 (.nat i2))),(10,.val (.int .i64 (.nat j2)))],[]⟩
 refine X.go T121_ok 400 _ rfl Tryz.results121 ?_
 conv=>arg 2;cbv
 obtain ⟨i30,hi3⟩:∃ k,k=scanUp (fun x=>!ltInt d3[a]! x) d3 j2 i2:=⟨_,rfl⟩
 refine X.loop (fun _=>aE Tryz.prog Tryz.f121 _ w b y n (wm w) d3 [] B121) (fun g:{g:Nat // i2≤g∧g≤j2+1∧scanUp (fun x=>!ltInt d3[a]! x) d3 j2 g=i30}=>⟨[(0,.val (.slv p n c)),(1,.val (.int .i64 (.nat a))),(9,.val (.int .i64 (.nat g.1))),(10,.val (.int .i64 (.nat j2)))],[]⟩) (fun g=>j2+1-g.1) (fun _=>⟨rfl,rfl,rfl,rfl⟩) (fun N ac w' hN hf hS=>⟨⟨i2,by omega,by omega,hi3.symm⟩,?_⟩) (fun g q hq=>?_)
 ·exact At.again hf hS (by repeat first | exact trivial | refine ⟨⟨_,rfl,.inl ⟨rfl,rfl⟩⟩,?_⟩ | refine ⟨⟨_,rfl,.inr ⟨_,rfl,rfl⟩⟩,?_⟩ | refine ⟨⟨_,rfl,.inr ⟨_,rfl,(by first | (simp (disch:=omega) only [SV.den,SI.den,wrapN,Option.some.injEq,Value.int.injEq,true_and];done) | (simp (disch:=omega) only [SV.den,SI.den,wrapN,Option.some.injEq,Value.int.injEq,true_and];omega))⟩⟩,?_⟩) trivial
 obtain ⟨i3,hu1i3,hu2i3,hu3⟩:=g
 obtain ⟨xu,hxu⟩:∃ x,d3[i3]! = x:=⟨_,rfl⟩
 obtain ⟨xa,hxa⟩:∃ x,d3[a]! = x:=⟨_,rfl⟩
 obtain ⟨t,ht⟩:∃ t,t=ltInt xa xu:=⟨_,rfl⟩
 obtain ⟨ou,hou⟩:∃ o,o=y+i3:=⟨_,rfl⟩
 obtain ⟨oa,hoa⟩:∃ o,o=y+a:=⟨_,rfl⟩
 show X (aE Tryz.prog Tryz.f121 _ w b y n (wm w) d3 [] B121) _ ⟨[(0,.val (.slv p n c)),(1,.val (.int .i64 (.nat a))),(9,.val (.int .i64 (.nat i3))),(10,.val (.int .i64 (.nat j2)))],[]⟩
 refine X.goP ([(39,.ext b ou 0),(40,.int .u8 (.v xu)),(35,.ext b oa 0),(36,.int .u8 (.v xa)),(41,.bool (.v t))]) T121_ok 400 _ rfl Tryz.results121 (fun pr fin hpr hfin=>?_)
 conv=>cbv
 refine ⟨hpr _ (less_call rfl ht),hpr _ (ValOk.im1 rfl Tryz.isAgg5 (fun _=>rfl) fun hT=>(by have hT:_=true:=hT;simp [SB.den,SI.den] at hT;(try replace hT:=of_decide_eq_true hT);(try simp (disch:=omega) only [SI.den,wrapN] at hT);rw [←hxu,hou];exact arrM_in (by omega))),hpr _ (ValOk.im1 rfl Tryz.isAgg5 (fun _=>rfl) fun hT=>(by have hT:_=true:=hT;simp [SB.den,SI.den] at hT;(try replace hT:=of_decide_eq_true hT);(try simp (disch:=omega) only [SI.den,wrapN] at hT);rw [←hxa,hoa];exact arrM_in (by omega))),hpr _ (ValOk.at (z:=i3) rfl rfl (fun hT=>by have hT:_=true:=hT;simp [SB.den,SI.den] at hT;(try replace hT:=of_decide_eq_true hT);(try simp (disch:=omega) only [SI.den,wrapN] at hT);first | omega | (simp (disch:=omega) only [SI.den,wrapN]<;>omega)) Tryz.underlying30 Tryz.sizeOf5 (fun hT=>by have hT:_=true:=hT;simp [SB.den,SI.den] at hT;(try replace hT:=of_decide_eq_true hT);(try simp (disch:=omega) only [SI.den,wrapN] at hT);first | omega | (simp (disch:=omega) only [SI.den,wrapN]<;>omega)) hp (by omega)),hpr _ (ValOk.at (z:=a) rfl rfl (fun hT=>by have hT:_=true:=hT;simp [SB.den,SI.den] at hT;(try replace hT:=of_decide_eq_true hT);(try simp (disch:=omega) only [SI.den,wrapN] at hT);first | omega | (simp (disch:=omega) only [SI.den,wrapN]<;>omega)) Tryz.underlying30 Tryz.sizeOf5 (fun hT=>by have hT:_=true:=hT;simp [SB.den,SI.den] at hT;(try replace hT:=of_decide_eq_true hT);(try simp (disch:=omega) only [SI.den,wrapN] at hT);first | omega | (simp (disch:=omega) only [SI.den,wrapN]<;>omega)) hp (by omega)),hfin _ _ ?_⟩
 refine X.cond rfl (fun hc=>?_) (fun hc=>?_)
 ·simp only [SB.T,SB.F,SI.den] at hc
  obtain ⟨hc1,hc2⟩:=hc
  refine X.go T121_ok 400 _ rfl Tryz.results121 ?_
  conv=>arg 2;cbv
  refine X.back (fun N ac w' hN hf hS=>hq ⟨i3+1,by omega,by omega,?_⟩ ac w' (by simp only;omega) ?_)
  ·rw [←hu3];conv=>rhs;rw [scanUp,if_pos (by rw [hxu,hxa,←ht,hc2];simp;omega)]
  ·exact At.again hf hS (by repeat first | exact trivial | refine ⟨⟨_,rfl,.inl ⟨rfl,rfl⟩⟩,?_⟩ | refine ⟨⟨_,rfl,.inr ⟨_,rfl,rfl⟩⟩,?_⟩ | refine ⟨⟨_,rfl,.inr ⟨_,rfl,(by first | (simp (disch:=omega) only [SV.den,SI.den,wrapN,Option.some.injEq,Value.int.injEq,true_and];done) | (simp (disch:=omega) only [SV.den,SI.den,wrapN,Option.some.injEq,Value.int.injEq,true_and];omega))⟩⟩,?_⟩) trivial
 simp only [SB.T,SB.F,SI.den] at hc
 rw [scanUp,if_neg (by rw [hxu,hxa,←ht];rcases hc with h | h;simp;omega;simp [h])] at hu3
 have xi3:i3 > j2∨ltInt d3[a]! d3[i3]! = true:=by
  rcases hc with h | h
  ·left;omega
  ·right;rw [hxu,hxa,←ht];exact h
 subst hu3
 clear hc hxu hxa ht hou hoa hq
 refine X.go T121_ok 400 _ rfl Tryz.results121 ?_
 conv=>arg 2;cbv
 obtain ⟨j30,hj3⟩:∃ k,k=scanDown (fun x=>ltInt d3[a]! x) d3 i3 j2:=⟨_,rfl⟩
 refine X.loop (fun _=>aE Tryz.prog Tryz.f121 _ w b y n (wm w) d3 [] B121) (fun g:{g:Nat // g≤j2∧i3≤g+1∧scanDown (fun x=>ltInt d3[a]! x) d3 i3 g=j30}=>⟨[(0,.val (.slv p n c)),(1,.val (.int .i64 (.nat a))),(9,.val (.int .i64 (.nat i3))),(10,.val (.int .i64 (.nat g.1)))],[]⟩) (fun g=>g.1) (fun _=>⟨rfl,rfl,rfl,rfl⟩) (fun N ac w' hN hf hS=>⟨⟨j2,by omega,by omega,hj3.symm⟩,?_⟩) (fun g q hq=>?_)
 ·exact At.again hf hS (by repeat first | exact trivial | refine ⟨⟨_,rfl,.inl ⟨rfl,rfl⟩⟩,?_⟩ | refine ⟨⟨_,rfl,.inr ⟨_,rfl,rfl⟩⟩,?_⟩ | refine ⟨⟨_,rfl,.inr ⟨_,rfl,(by first | (simp (disch:=omega) only [SV.den,SI.den,wrapN,Option.some.injEq,Value.int.injEq,true_and];done) | (simp (disch:=omega) only [SV.den,SI.den,wrapN,Option.some.injEq,Value.int.injEq,true_and];omega))⟩⟩,?_⟩) trivial
 obtain ⟨j3,hu1j3,hu2j3,hu3⟩:=g
 obtain ⟨xu,hxu⟩:∃ x,d3[j3]! = x:=⟨_,rfl⟩
 obtain ⟨xa,hxa⟩:∃ x,d3[a]! = x:=⟨_,rfl⟩
 obtain ⟨t,ht⟩:∃ t,t=ltInt xa xu:=⟨_,rfl⟩
 obtain ⟨ou,hou⟩:∃ o,o=y+j3:=⟨_,rfl⟩
 obtain ⟨oa,hoa⟩:∃ o,o=y+a:=⟨_,rfl⟩
 show X (aE Tryz.prog Tryz.f121 _ w b y n (wm w) d3 [] B121) _ ⟨[(0,.val (.slv p n c)),(1,.val (.int .i64 (.nat a))),(9,.val (.int .i64 (.nat i3))),(10,.val (.int .i64 (.nat j3)))],[]⟩
 refine X.goP ([(56,.ext b ou 0),(57,.int .u8 (.v xu)),(52,.ext b oa 0),(53,.int .u8 (.v xa)),(58,.bool (.v t))]) T121_ok 400 _ rfl Tryz.results121 (fun pr fin hpr hfin=>?_)
 conv=>cbv
 refine ⟨hpr _ (less_call rfl ht),hpr _ (ValOk.im1 rfl Tryz.isAgg5 (fun _=>rfl) fun hT=>(by have hT:_=true:=hT;simp [SB.den,SI.den] at hT;(try replace hT:=of_decide_eq_true hT);(try simp (disch:=omega) only [SI.den,wrapN] at hT);rw [←hxu,hou];exact arrM_in (by omega))),hpr _ (ValOk.im1 rfl Tryz.isAgg5 (fun _=>rfl) fun hT=>(by have hT:_=true:=hT;simp [SB.den,SI.den] at hT;(try replace hT:=of_decide_eq_true hT);(try simp (disch:=omega) only [SI.den,wrapN] at hT);rw [←hxa,hoa];exact arrM_in (by omega))),hpr _ (ValOk.at (z:=j3) rfl rfl (fun hT=>by have hT:_=true:=hT;simp [SB.den,SI.den] at hT;(try replace hT:=of_decide_eq_true hT);(try simp (disch:=omega) only [SI.den,wrapN] at hT);first | omega | (simp (disch:=omega) only [SI.den,wrapN]<;>omega)) Tryz.underlying30 Tryz.sizeOf5 (fun hT=>by have hT:_=true:=hT;simp [SB.den,SI.den] at hT;(try replace hT:=of_decide_eq_true hT);(try simp (disch:=omega) only [SI.den,wrapN] at hT);first | omega | (simp (disch:=omega) only [SI.den,wrapN]<;>omega)) hp (by omega)),hpr _ (ValOk.at (z:=a) rfl rfl (fun hT=>by have hT:_=true:=hT;simp [SB.den,SI.den] at hT;(try replace hT:=of_decide_eq_true hT);(try simp (disch:=omega) only [SI.den,wrapN] at hT);first | omega | (simp (disch:=omega) only [SI.den,wrapN]<;>omega)) Tryz.underlying30 Tryz.sizeOf5 (fun hT=>by have hT:_=true:=hT;simp [SB.den,SI.den] at hT;(try replace hT:=of_decide_eq_true hT);(try simp (disch:=omega) only [SI.den,wrapN] at hT);first | omega | (simp (disch:=omega) only [SI.den,wrapN]<;>omega)) hp (by omega)),hfin _ _ ?_⟩
 refine X.cond rfl (fun hc=>?_) (fun hc=>?_)
 ·simp only [SB.T,SB.F,SI.den] at hc
  obtain ⟨hc1,hc2⟩:=hc
  refine X.go T121_ok 400 _ rfl Tryz.results121 ?_
  conv=>arg 2;cbv
  refine X.back (fun N ac w' hN hf hS=>hq ⟨j3-1,by omega,by omega,?_⟩ ac w' (by simp only;omega) ?_)
  ·obtain ⟨v,rfl⟩:∃ v,j3=v+1:=⟨j3-1,by omega⟩
   rw [←hu3];conv=>rhs;rw [scanDown,if_pos (by rw [hxu,hxa,←ht,hc2];simp;omega)]
   rfl
  ·exact At.again hf hS (by repeat first | exact trivial | refine ⟨⟨_,rfl,.inl ⟨rfl,rfl⟩⟩,?_⟩ | refine ⟨⟨_,rfl,.inr ⟨_,rfl,rfl⟩⟩,?_⟩ | refine ⟨⟨_,rfl,.inr ⟨_,rfl,(by first | (simp (disch:=omega) only [SV.den,SI.den,wrapN,Option.some.injEq,Value.int.injEq,true_and];done) | (simp (disch:=omega) only [SV.den,SI.den,wrapN,Option.some.injEq,Value.int.injEq,true_and];omega))⟩⟩,?_⟩) trivial
 simp only [SB.T,SB.F,SI.den] at hc
 have hu3:j3=j30:=by
  cases j3 with
  | zero=>rw [←hu3];rfl
  | succ v=>rw [←hu3,scanDown,if_neg (by rw [hxu,hxa,←ht];rcases hc with h | h;simp;omega;simp [h])]
 have xj3:i3 > j3∨ltInt d3[a]! d3[j3]! = false:=by
  rcases hc with h | h
  ·left;omega
  ·right;rw [hxu,hxa,←ht];exact h
 subst hu3
 clear hc hxu hxa ht hou hoa hq
 refine X.go T121_ok 400 _ rfl Tryz.results121 ?_
 conv=>arg 2;cbv
 rw [partEqLoop_eq,←hi3,←hj3] at hFi
 refine X.cond rfl (fun hgt=>?_) (fun hle3=>?_)
 ·simp only [SB.T,SI.den] at hgt
  rw [if_pos (by omega)] at hFi
  refine X.go T121_ok 400 _ rfl Tryz.results121 ?_
  conv=>arg 2;cbv
  refine X.done T121_ok rfl (fun N w' v hN hS hv=>⟨?_,?_⟩)
  ·simp only [resV,SV.den,SV.denL,SI.den,SB.den,Option.some.injEq] at hv
   rw [←hv,←hFi]
  ·rw [←hFi]
   exact Sat.arr hS hA hn sd3
 simp only [SB.F,SI.den] at hle3
 rw [if_neg (by omega)] at hFi
 refine X.go T121_ok 400 _ rfl Tryz.results121 ?_
 conv=>arg 2;cbv
 obtain ⟨d4,hd4⟩:∃ x,x=swp d3 i3 j3:=⟨_,rfl⟩
 have sd4:d4.size=n:=by rw [hd4,swpZ_size];exact sd3
 refine X.join (ι:=Unit) (fun _=>aE Tryz.prog Tryz.f121 _ w b y n (wm w) d4 [] B121) (fun _=>⟨[(0,.val (.slv p n c)),(1,.val (.int .i64 (.nat a))),(9,.val (.int .i64 (.nat i3))),(10,.val (.int .i64 (.nat j3)))],[]⟩) (fun _=>⟨rfl,rfl,rfl⟩) (fun qj hqj=>?_) (fun _=>?_)
 ·obtain ⟨xi,hxi⟩:∃ x,d3[i3]! = x:=⟨_,rfl⟩
  obtain ⟨xj,hxj⟩:∃ x,d3[j3]! = x:=⟨_,rfl⟩
  by_cases hij:i3=j3
  ·refine X.take1 hA hn sd3 (i:=i3) (by omega) hxi (by simp) (fun N1 _ hN1=>?_)
   have g0:(N1++[⟨b,y+i3,1⟩]:Nums)[0]?=some ⟨b,y+i3,1⟩:=num_last hN1
   refine X.goP ([(71,.own 0 0),(75,.own 0 0),(77,.own 0 0),(78,.own 0 0)]) T121_ok 400 _ rfl Tryz.results121 (fun pr fin hpr hfin=>?_)
   conv=>cbv
   refine ⟨hpr _ (ValOk.row (z:=i3) rfl rfl (fun _=>by first | rfl | (simp (disch:=omega) only [SB.den,SI.den,wrapN]<;>omega)) Tryz.underlying30 Tryz.sizeOf5 (by omega) hp g0 rfl (by simp)),hpr _ (ValOk.row (z:=i3) rfl rfl (fun _=>by first | rfl | (simp (disch:=omega) only [SB.den,SI.den,wrapN]<;>omega)) Tryz.underlying30 Tryz.sizeOf5 (by omega) hp g0 rfl (by simp)),hpr _ (ValOk.row (z:=i3) rfl rfl (fun _=>by first | rfl | (simp (disch:=omega) only [SB.den,SI.den,wrapN]<;>omega)) Tryz.underlying30 Tryz.sizeOf5 (by omega) hp g0 rfl (by simp)),hpr _ (ValOk.row (z:=i3) rfl rfl (fun _=>by first | rfl | (simp (disch:=omega) only [SB.den,SI.den,wrapN]<;>omega)) Tryz.underlying30 Tryz.sizeOf5 (by omega) hp g0 rfl (by simp)),hfin _ _ ?_⟩
   refine X.give1 (i:=i3) (r:=0) sd3 (by omega) hxi rfl g0 ?_
   refine X.back (fun N ac w' hN hf hS=>hqj () ac w' ?_)
   rw [hd4,←hij,swpZ_self (by omega)]
   exact At.again hf hS (by repeat first | exact trivial | refine ⟨⟨_,rfl,.inl ⟨rfl,rfl⟩⟩,?_⟩ | refine ⟨⟨_,rfl,.inr ⟨_,rfl,rfl⟩⟩,?_⟩ | refine ⟨⟨_,rfl,.inr ⟨_,rfl,(by first | (simp (disch:=omega) only [SV.den,SI.den,wrapN,Option.some.injEq,Value.int.injEq,true_and];done) | (simp (disch:=omega) only [SV.den,SI.den,wrapN,Option.some.injEq,Value.int.injEq,true_and];omega))⟩⟩,?_⟩) trivial
  ·refine X.take2 hA hn sd3 (i:=i3) (j:=j3) hij (by omega) (by omega) hxi hxj (by simp) (fun N1 _ hN1=>?_)
   have g0:((N1++[⟨b,y+i3,1⟩])++[⟨b,y+j3,1⟩]:Nums)[0]?=some ⟨b,y+i3,1⟩:=num_old (num_last hN1)
   have g1:((N1++[⟨b,y+i3,1⟩])++[⟨b,y+j3,1⟩]:Nums)[1]?=some ⟨b,y+j3,1⟩:=num_last (by simp [hN1])
   refine X.goP ([(71,.own 1 0),(75,.own 0 0),(77,.own 0 0),(78,.own 1 0)]) T121_ok 400 _ rfl Tryz.results121 (fun pr fin hpr hfin=>?_)
   conv=>cbv
   refine ⟨hpr _ (ValOk.row (z:=j3) rfl rfl (fun _=>by first | rfl | (simp (disch:=omega) only [SB.den,SI.den,wrapN]<;>omega)) Tryz.underlying30 Tryz.sizeOf5 (by omega) hp g1 rfl (by simp)),hpr _ (ValOk.row (z:=i3) rfl rfl (fun _=>by first | rfl | (simp (disch:=omega) only [SB.den,SI.den,wrapN]<;>omega)) Tryz.underlying30 Tryz.sizeOf5 (by omega) hp g0 rfl (by simp)),hpr _ (ValOk.row (z:=i3) rfl rfl (fun _=>by first | rfl | (simp (disch:=omega) only [SB.den,SI.den,wrapN]<;>omega)) Tryz.underlying30 Tryz.sizeOf5 (by omega) hp g0 rfl (by simp)),hpr _ (ValOk.row (z:=j3) rfl rfl (fun _=>by first | rfl | (simp (disch:=omega) only [SB.den,SI.den,wrapN]<;>omega)) Tryz.underlying30 Tryz.sizeOf5 (by omega) hp g1 rfl (by simp)),hfin _ _ ?_⟩
   refine X.give2 (i:=i3) (j:=j3) (r:=0) sd3 hij (by omega) (by omega) hxi hxj rfl rfl g0 g1 ?_
   refine X.back (fun N ac w' hN hf hS=>hqj () ac w' ?_)
   rw [hd4]
   exact At.again hf hS (by repeat first | exact trivial | refine ⟨⟨_,rfl,.inl ⟨rfl,rfl⟩⟩,?_⟩ | refine ⟨⟨_,rfl,.inr ⟨_,rfl,rfl⟩⟩,?_⟩ | refine ⟨⟨_,rfl,.inr ⟨_,rfl,(by first | (simp (disch:=omega) only [SV.den,SI.den,wrapN,Option.some.injEq,Value.int.injEq,true_and];done) | (simp (disch:=omega) only [SV.den,SI.den,wrapN,Option.some.injEq,Value.int.injEq,true_and];omega))⟩⟩,?_⟩) trivial
 have hij3:i3≠j3:=fun e=>by
  rcases xi3 with h | h
  ·omega
  ·rcases xj3 with h2 | h2
   ·omega
   ·rw [e,h2] at h;cases h
 refine X.go T121_ok 400 _ rfl Tryz.results121 ?_
 conv=>arg 2;cbv
 refine X.back (fun N ac w' hN hf hS=>hqm ⟨((i3+1,j3-1),d4),sd4,by simp only;omega,?_⟩ ac w' (by simp only;omega) ?_)
 ·rw [←hFi,hd4]
 ·exact At.again hf hS (by repeat first | exact trivial | refine ⟨⟨_,rfl,.inl ⟨rfl,rfl⟩⟩,?_⟩ | refine ⟨⟨_,rfl,.inr ⟨_,rfl,rfl⟩⟩,?_⟩ | refine ⟨⟨_,rfl,.inr ⟨_,rfl,(by first | (simp (disch:=omega) only [SV.den,SI.den,wrapN,Option.some.injEq,Value.int.injEq,true_and];done) | (simp (disch:=omega) only [SV.den,SI.den,wrapN,Option.some.injEq,Value.int.injEq,true_and];omega))⟩⟩,?_⟩) trivial
theorem shiftDown_size:∀ (j:Nat) (d:Array Int),(shiftDown ltInt j d).size=d.size
 | 0,d=>rfl
 | j+1,d=>by rw [shiftDown];split;rfl;rw [shiftDown_size j,swpZ_size]
theorem shiftUp_size (e:Nat):∀ (k j:Nat) (d:Array Int),e-j≤k→(shiftUp ltInt e j d).size=d.size
 | 0,j,d,h=>by rw [shiftUp,if_neg (by omega)]
 | k+1,j,d,h=>by
  rw [shiftUp]
  split
  ·split
   ·rfl
   ·rw [shiftUp_size e k _ _ (by omega),swpZ_size]
  ·rfl
theorem partIns8_ok (b y n c a e:Nat) (d:Array Int) (w:World) (hA:AtA w b y d) (hn:d.size=n) (hae:a<e) (hen:e≤n) (hbig:n<4611686018427387904) :
  Calls Tryz.prog 119 #[.slice (some ⟨b,y,none⟩) n c,.int .i64 a,.int .i64 e] w fun en w'=>en=.returned (.bool (partialInsertionSort ltInt d a e).2)∧AtA w' b y (partialInsertionSort ltInt d a e).1∧Chg (arrD b y n) w w':=by
 obtain ⟨R,hR⟩:∃ R,R=partialInsertionSort ltInt d a e:=⟨_,rfl⟩
 rw [←hR]
 obtain ⟨p,hp⟩:∃ p,p=some (Addr.mk b y none):=⟨_,rfl⟩
 rw [←hp]
 unfold partialInsertionSort at hR
 have sd:=hn
 refine X.beginA hA hn (ss:=[.slv p n c,.int .i64 (.nat a),.int .i64 (.nat e)]) Tryz.func119 rfl B119_ok rfl rfl ?_
 refine X.go T119_ok 400 _ rfl Tryz.results119 ?_
 conv=>arg 2;cbv
 refine X.loop (fun g:{g:(Nat × Nat) × Array Int // g.2.size=n∧(a+1≤g.1.2∧g.1.2≤e∧g.1.1≤5)∧partialIns ltInt a e (5-g.1.1) g.1.2 g.2=R}=>aE Tryz.prog Tryz.f119 _ w b y n (wm w) g.1.2 [] B119) (fun g=>⟨[(0,.val (.slv p n c)),(1,.val (.int .i64 (.nat a))),(2,.val (.int .i64 (.nat e))),(7,.val (.int .i64 (.nat g.1.1.2))),(8,.val (.int .i64 (.nat g.1.1.1)))],[]⟩) (fun g=>5-g.1.1.1) (fun _=>⟨rfl,rfl,rfl,rfl⟩) (fun N ac w' hN hf hS=>⟨⟨((0,a+1),d),hn,by simp only;omega,hR.symm⟩,?_⟩) (fun g qm hqm=>?_)
 ·exact At.again hf hS (by repeat first | exact trivial | refine ⟨⟨_,rfl,.inl ⟨rfl,rfl⟩⟩,?_⟩ | refine ⟨⟨_,rfl,.inr ⟨_,rfl,rfl⟩⟩,?_⟩ | refine ⟨⟨_,rfl,.inr ⟨_,rfl,(by first | (simp (disch:=omega) only [SV.den,SI.den,wrapN,Option.some.injEq,Value.int.injEq,true_and];done) | (simp (disch:=omega) only [SV.den,SI.den,wrapN,Option.some.injEq,Value.int.injEq,true_and];omega))⟩⟩,?_⟩) trivial
 obtain ⟨⟨⟨cnt,i⟩,d1⟩,sd1,⟨hg1,hg2,hg3⟩,hFi⟩:=g
 simp only at sd1 hg1 hg2 hg3 hFi
 show X (aE Tryz.prog Tryz.f119 _ w b y n (wm w) d1 [] B119) _ ⟨[(0,.val (.slv p n c)),(1,.val (.int .i64 (.nat a))),(2,.val (.int .i64 (.nat e))),(7,.val (.int .i64 (.nat i))),(8,.val (.int .i64 (.nat cnt)))],[]⟩
 refine X.go T119_ok 400 _ rfl Tryz.results119 ?_
 conv=>arg 2;cbv
 refine X.cond rfl (fun hc5=>?_) (fun hc5=>?_)
 ·simp only [SB.T,SI.den] at hc5
  rw [show 5-cnt=(4-cnt)+1 by omega,partialIns] at hFi
  refine X.go T119_ok 400 _ rfl Tryz.results119 ?_
  conv=>arg 2;cbv
  obtain ⟨i20,hi2⟩:∃ k,k=scanSorted ltInt d1 e i:=⟨_,rfl⟩
  simp only [←hi2] at hFi
  refine X.loop (fun _=>aE Tryz.prog Tryz.f119 _ w b y n (wm w) d1 [] B119) (fun g:{g:Nat // i≤g∧g≤e∧scanSorted ltInt d1 e g=i20}=>⟨[(0,.val (.slv p n c)),(1,.val (.int .i64 (.nat a))),(2,.val (.int .i64 (.nat e))),(7,.val (.int .i64 (.nat g.1))),(8,.val (.int .i64 (.nat cnt)))],[]⟩) (fun g=>e-g.1) (fun _=>⟨rfl,rfl,rfl,rfl⟩) (fun N ac w' hN hf hS=>⟨⟨i,by omega,by omega,hi2.symm⟩,?_⟩) (fun g q hq=>?_)
  ·exact At.again hf hS (by repeat first | exact trivial | refine ⟨⟨_,rfl,.inl ⟨rfl,rfl⟩⟩,?_⟩ | refine ⟨⟨_,rfl,.inr ⟨_,rfl,rfl⟩⟩,?_⟩ | refine ⟨⟨_,rfl,.inr ⟨_,rfl,(by first | (simp (disch:=omega) only [SV.den,SI.den,wrapN,Option.some.injEq,Value.int.injEq,true_and];done) | (simp (disch:=omega) only [SV.den,SI.den,wrapN,Option.some.injEq,Value.int.injEq,true_and];omega))⟩⟩,?_⟩) trivial
  obtain ⟨i2,hu1,hu2,hu3⟩:=g
  obtain ⟨m,hm⟩:∃ m,m=i2-1:=⟨_,rfl⟩
  obtain ⟨xu,hxu⟩:∃ x,d1[i2]! = x:=⟨_,rfl⟩
  obtain ⟨xm,hxm⟩:∃ x,d1[m]! = x:=⟨_,rfl⟩
  obtain ⟨t,ht⟩:∃ t,t=ltInt xu xm:=⟨_,rfl⟩
  obtain ⟨ou,hou⟩:∃ o,o=y+i2:=⟨_,rfl⟩
  obtain ⟨om,hom⟩:∃ o,o=y+m:=⟨_,rfl⟩
  show X (aE Tryz.prog Tryz.f119 _ w b y n (wm w) d1 [] B119) _ ⟨[(0,.val (.slv p n c)),(1,.val (.int .i64 (.nat a))),(2,.val (.int .i64 (.nat e))),(7,.val (.int .i64 (.nat i2))),(8,.val (.int .i64 (.nat cnt)))],[]⟩
  refine X.goP ([(23,.ext b ou 0),(24,.int .u8 (.v xu)),(28,.ext b om 0),(29,.int .u8 (.v xm)),(30,.bool (.v t))]) T119_ok 400 _ rfl Tryz.results119 (fun pr fin hpr hfin=>?_)
  conv=>cbv
  refine ⟨hpr _ (less_call rfl ht),hpr _ (ValOk.im1 rfl Tryz.isAgg5 (fun _=>rfl) fun hT=>(by have hT:_=true:=hT;simp [SB.den,SI.den] at hT;(try replace hT:=of_decide_eq_true hT);(try simp (disch:=omega) only [SI.den,wrapN] at hT);rw [←hxm,hom];exact arrM_in (by omega))),hpr _ (ValOk.im1 rfl Tryz.isAgg5 (fun _=>rfl) fun hT=>(by have hT:_=true:=hT;simp [SB.den,SI.den] at hT;(try replace hT:=of_decide_eq_true hT);(try simp (disch:=omega) only [SI.den,wrapN] at hT);rw [←hxu,hou];exact arrM_in (by omega))),hpr _ (ValOk.at (z:=m) rfl rfl (fun hT=>by have hT:_=true:=hT;simp [SB.den,SI.den] at hT;(try replace hT:=of_decide_eq_true hT);(try simp (disch:=omega) only [SI.den,wrapN] at hT);first | omega | (simp (disch:=omega) only [SI.den,wrapN]<;>omega)) Tryz.underlying30 Tryz.sizeOf5 (fun hT=>by have hT:_=true:=hT;simp [SB.den,SI.den] at hT;(try replace hT:=of_decide_eq_true hT);(try simp (disch:=omega) only [SI.den,wrapN] at hT);first | omega | (simp (disch:=omega) only [SI.den,wrapN]<;>omega)) hp (by omega)),hpr _ (ValOk.at (z:=i2) rfl rfl (fun hT=>by have hT:_=true:=hT;simp [SB.den,SI.den] at hT;(try replace hT:=of_decide_eq_true hT);(try simp (disch:=omega) only [SI.den,wrapN] at hT);first | omega | (simp (disch:=omega) only [SI.den,wrapN]<;>omega)) Tryz.underlying30 Tryz.sizeOf5 (fun hT=>by have hT:_=true:=hT;simp [SB.den,SI.den] at hT;(try replace hT:=of_decide_eq_true hT);(try simp (disch:=omega) only [SI.den,wrapN] at hT);first | omega | (simp (disch:=omega) only [SI.den,wrapN]<;>omega)) hp (by omega)),hfin _ _ ?_⟩
  refine X.cond rfl (fun hc=>?_) (fun hc=>?_)
  ·simp only [SB.T,SB.F,SI.den] at hc
   obtain ⟨hc1,hc2⟩:=hc
   refine X.go T119_ok 400 _ rfl Tryz.results119 ?_
   conv=>arg 2;cbv
   refine X.back (fun N ac w' hN hf hS=>hq ⟨i2+1,by omega,by omega,?_⟩ ac w' (by simp only;omega) ?_)
   ·rw [←hu3];conv=>rhs;rw [scanSorted,if_pos (by rw [←hm,hxu,hxm,←ht,hc2];simp;omega)]
   ·exact At.again hf hS (by repeat first | exact trivial | refine ⟨⟨_,rfl,.inl ⟨rfl,rfl⟩⟩,?_⟩ | refine ⟨⟨_,rfl,.inr ⟨_,rfl,rfl⟩⟩,?_⟩ | refine ⟨⟨_,rfl,.inr ⟨_,rfl,(by first | (simp (disch:=omega) only [SV.den,SI.den,wrapN,Option.some.injEq,Value.int.injEq,true_and];done) | (simp (disch:=omega) only [SV.den,SI.den,wrapN,Option.some.injEq,Value.int.injEq,true_and];omega))⟩⟩,?_⟩) trivial
  simp only [SB.T,SB.F,SI.den] at hc
  rw [scanSorted,if_neg (by rw [←hm,hxu,hxm,←ht];rcases hc with h | h;simp;omega;simp [h])] at hu3
  subst hu3
  clear hc hxu hxm ht hou hom hq
  refine X.go T119_ok 400 _ rfl Tryz.results119 ?_
  conv=>arg 2;cbv
  refine X.cond rfl (fun hie=>?_) (fun hie=>?_)
  ·simp only [SB.T,SI.den] at hie
   rw [if_pos (by omega)] at hFi
   refine X.go T119_ok 400 _ rfl Tryz.results119 ?_
   conv=>arg 2;cbv
   refine X.done T119_ok rfl (fun N w' v hN hS hv=>⟨?_,?_⟩)
   ·simp only [resV,SV.den,SV.denL,SI.den,SB.den,Option.some.injEq] at hv
    rw [←hv,←hFi]
   ·rw [←hFi]
    exact Sat.arr hS hA hn sd1
  simp only [SB.F,SI.den] at hie
  rw [if_neg (by omega)] at hFi
  refine X.go T119_ok 400 _ rfl Tryz.results119 ?_
  conv=>arg 2;cbv
  refine X.cond rfl (fun h50=>?_) (fun h50=>?_)
  ·simp (disch:=omega) only [SB.T,SI.den,wrapN] at h50
   rw [if_pos (by omega)] at hFi
   refine X.go T119_ok 400 _ rfl Tryz.results119 ?_
   conv=>arg 2;cbv
   refine X.done T119_ok rfl (fun N w' v hN hS hv=>⟨?_,?_⟩)
   ·simp only [resV,SV.den,SV.denL,SI.den,SB.den,Option.some.injEq] at hv
    rw [←hv,←hFi]
   ·rw [←hFi]
    exact Sat.arr hS hA hn sd1
  simp (disch:=omega) only [SB.F,SI.den,wrapN] at h50
  rw [if_neg (by omega),←hm] at hFi
  refine X.go T119_ok 400 _ rfl Tryz.results119 ?_
  conv=>arg 2;cbv
  obtain ⟨d2,hd2⟩:∃ x,x=swp d1 i2 m:=⟨_,rfl⟩
  have sd2:d2.size=n:=by rw [hd2,swpZ_size];exact sd1
  refine X.join (ι:=Unit) (fun _=>aE Tryz.prog Tryz.f119 _ w b y n (wm w) d2 [] B119) (fun _=>⟨[(0,.val (.slv p n c)),(1,.val (.int .i64 (.nat a))),(2,.val (.int .i64 (.nat e))),(7,.val (.int .i64 (.nat i2))),(8,.val (.int .i64 (.nat cnt)))],[]⟩) (fun _=>⟨rfl,rfl,rfl⟩) (fun qj hqj=>?_) (fun _=>?_)
  ·obtain ⟨xi,hxi⟩:∃ x,d1[i2]! = x:=⟨_,rfl⟩
   obtain ⟨xj,hxj⟩:∃ x,d1[m]! = x:=⟨_,rfl⟩
   by_cases hij:i2=m
   ·refine X.take1 hA hn sd1 (i:=i2) (by omega) hxi (by simp) (fun N1 _ hN1=>?_)
    have g0:(N1++[⟨b,y+i2,1⟩]:Nums)[0]?=some ⟨b,y+i2,1⟩:=num_last hN1
    refine X.goP ([(50,.own 0 0),(54,.own 0 0),(56,.own 0 0),(57,.own 0 0)]) T119_ok 400 _ rfl Tryz.results119 (fun pr fin hpr hfin=>?_)
    conv=>cbv
    refine ⟨hpr _ (ValOk.row (z:=i2) rfl rfl (fun _=>by first | rfl | (simp (disch:=omega) only [SB.den,SI.den,wrapN]<;>omega)) Tryz.underlying30 Tryz.sizeOf5 (by omega) hp g0 rfl (by simp)),hpr _ (ValOk.row (z:=i2) rfl rfl (fun _=>by first | rfl | (simp (disch:=omega) only [SB.den,SI.den,wrapN]<;>omega)) Tryz.underlying30 Tryz.sizeOf5 (by omega) hp g0 rfl (by simp)),hpr _ (ValOk.row (z:=i2) rfl rfl (fun _=>by first | rfl | (simp (disch:=omega) only [SB.den,SI.den,wrapN]<;>omega)) Tryz.underlying30 Tryz.sizeOf5 (by omega) hp g0 rfl (by simp)),hpr _ (ValOk.row (z:=i2) rfl rfl (fun _=>by first | rfl | (simp (disch:=omega) only [SB.den,SI.den,wrapN]<;>omega)) Tryz.underlying30 Tryz.sizeOf5 (by omega) hp g0 rfl (by simp)),hfin _ _ ?_⟩
    refine X.give1 (i:=i2) (r:=0) sd1 (by omega) hxi rfl g0 ?_
    refine X.back (fun N ac w' hN hf hS=>hqj () ac w' ?_)
    rw [hd2,←hij,swpZ_self (by omega)]
    exact At.again hf hS (by repeat first | exact trivial | refine ⟨⟨_,rfl,.inl ⟨rfl,rfl⟩⟩,?_⟩ | refine ⟨⟨_,rfl,.inr ⟨_,rfl,rfl⟩⟩,?_⟩ | refine ⟨⟨_,rfl,.inr ⟨_,rfl,(by first | (simp (disch:=omega) only [SV.den,SI.den,wrapN,Option.some.injEq,Value.int.injEq,true_and];done) | (simp (disch:=omega) only [SV.den,SI.den,wrapN,Option.some.injEq,Value.int.injEq,true_and];omega))⟩⟩,?_⟩) trivial
   ·refine X.take2 hA hn sd1 (i:=i2) (j:=m) hij (by omega) (by omega) hxi hxj (by simp) (fun N1 _ hN1=>?_)
    have g0:((N1++[⟨b,y+i2,1⟩])++[⟨b,y+m,1⟩]:Nums)[0]?=some ⟨b,y+i2,1⟩:=num_old (num_last hN1)
    have g1:((N1++[⟨b,y+i2,1⟩])++[⟨b,y+m,1⟩]:Nums)[1]?=some ⟨b,y+m,1⟩:=num_last (by simp [hN1])
    refine X.goP ([(50,.own 1 0),(54,.own 0 0),(56,.own 0 0),(57,.own 1 0)]) T119_ok 400 _ rfl Tryz.results119 (fun pr fin hpr hfin=>?_)
    conv=>cbv
    refine ⟨hpr _ (ValOk.row (z:=m) rfl rfl (fun _=>by first | rfl | (simp (disch:=omega) only [SB.den,SI.den,wrapN]<;>omega)) Tryz.underlying30 Tryz.sizeOf5 (by omega) hp g1 rfl (by simp)),hpr _ (ValOk.row (z:=i2) rfl rfl (fun _=>by first | rfl | (simp (disch:=omega) only [SB.den,SI.den,wrapN]<;>omega)) Tryz.underlying30 Tryz.sizeOf5 (by omega) hp g0 rfl (by simp)),hpr _ (ValOk.row (z:=i2) rfl rfl (fun _=>by first | rfl | (simp (disch:=omega) only [SB.den,SI.den,wrapN]<;>omega)) Tryz.underlying30 Tryz.sizeOf5 (by omega) hp g0 rfl (by simp)),hpr _ (ValOk.row (z:=m) rfl rfl (fun _=>by first | rfl | (simp (disch:=omega) only [SB.den,SI.den,wrapN]<;>omega)) Tryz.underlying30 Tryz.sizeOf5 (by omega) hp g1 rfl (by simp)),hfin _ _ ?_⟩
    refine X.give2 (i:=i2) (j:=m) (r:=0) sd1 hij (by omega) (by omega) hxi hxj rfl rfl g0 g1 ?_
    refine X.back (fun N ac w' hN hf hS=>hqj () ac w' ?_)
    rw [hd2]
    exact At.again hf hS (by repeat first | exact trivial | refine ⟨⟨_,rfl,.inl ⟨rfl,rfl⟩⟩,?_⟩ | refine ⟨⟨_,rfl,.inr ⟨_,rfl,rfl⟩⟩,?_⟩ | refine ⟨⟨_,rfl,.inr ⟨_,rfl,(by first | (simp (disch:=omega) only [SV.den,SI.den,wrapN,Option.some.injEq,Value.int.injEq,true_and];done) | (simp (disch:=omega) only [SV.den,SI.den,wrapN,Option.some.injEq,Value.int.injEq,true_and];omega))⟩⟩,?_⟩) trivial
  rw [←hd2] at hFi
  refine X.go T119_ok 1 _ rfl Tryz.results119 ?_
  conv=>arg 2;cbv
  obtain ⟨d3,hd3⟩:∃ x,x=(if i2-a ≥ 2 then shiftDown ltInt m d2 else d2):=⟨_,rfl⟩
  have sd3:d3.size=n:=by rw [hd3];split;rw [shiftDown_size];exact sd2;exact sd2
  rw [←hd3] at hFi
  refine X.join (ι:=Unit) (fun _=>aE Tryz.prog Tryz.f119 _ w b y n (wm w) d3 [] B119) (fun _=>⟨[(0,.val (.slv p n c)),(1,.val (.int .i64 (.nat a))),(2,.val (.int .i64 (.nat e))),(7,.val (.int .i64 (.nat i2))),(8,.val (.int .i64 (.nat cnt)))],[]⟩) (fun _=>⟨rfl,rfl,rfl⟩) (fun qj hqj=>?_) (fun _=>?_)
  ·refine X.go T119_ok 400 _ rfl Tryz.results119 ?_
   conv=>arg 2;cbv
   refine X.cond rfl (fun h2=>?_) (fun h2=>?_)
   ·simp (disch:=omega) only [SB.T,SI.den,wrapN] at h2
    rw [if_pos (by omega)] at hd3
    refine X.go T119_ok 400 _ rfl Tryz.results119 ?_
    conv=>arg 2;cbv
    refine X.loop (fun g:{g:Nat × Array Int // g.2.size=n∧g.1≤m∧shiftDown ltInt g.1 g.2=d3}=>aE Tryz.prog Tryz.f119 _ w b y n (wm w) g.1.2 [] B119) (fun g=>⟨[(0,.val (.slv p n c)),(1,.val (.int .i64 (.nat a))),(2,.val (.int .i64 (.nat e))),(7,.val (.int .i64 (.nat i2))),(8,.val (.int .i64 (.nat cnt))),(9,.val (.int .i64 (.nat g.1.1)))],[]⟩) (fun g=>g.1.1) (fun _=>⟨rfl,rfl,rfl,rfl⟩) (fun N ac w' hN hf hS=>⟨⟨(m,d2),sd2,Nat.le_refl _,hd3.symm⟩,?_⟩) (fun g q hq=>?_)
    ·exact At.again hf hS (by repeat first | exact trivial | refine ⟨⟨_,rfl,.inl ⟨rfl,rfl⟩⟩,?_⟩ | refine ⟨⟨_,rfl,.inr ⟨_,rfl,rfl⟩⟩,?_⟩ | refine ⟨⟨_,rfl,.inr ⟨_,rfl,(by first | (simp (disch:=omega) only [SV.den,SI.den,wrapN,Option.some.injEq,Value.int.injEq,true_and];done) | (simp (disch:=omega) only [SV.den,SI.den,wrapN,Option.some.injEq,Value.int.injEq,true_and];omega))⟩⟩,?_⟩) trivial
    obtain ⟨⟨j,dj⟩,sdj,hj1,hFj⟩:=g
    simp only at sdj hj1 hFj
    show X (aE Tryz.prog Tryz.f119 _ w b y n (wm w) dj [] B119) _ ⟨[(0,.val (.slv p n c)),(1,.val (.int .i64 (.nat a))),(2,.val (.int .i64 (.nat e))),(7,.val (.int .i64 (.nat i2))),(8,.val (.int .i64 (.nat cnt))),(9,.val (.int .i64 (.nat j)))],[]⟩
    refine X.go T119_ok 400 _ rfl Tryz.results119 ?_
    conv=>arg 2;cbv
    refine X.cond rfl (fun hj=>?_) (fun hj=>?_)
    ·simp only [SB.T,SI.den] at hj
     obtain ⟨k,hjk⟩:∃ k,j=k+1:=⟨j-1,by omega⟩
     obtain ⟨xj,hxj⟩:∃ x,dj[j]! = x:=⟨_,rfl⟩
     obtain ⟨xk,hxk⟩:∃ x,dj[k]! = x:=⟨_,rfl⟩
     obtain ⟨t,ht⟩:∃ t,t=ltInt xj xk:=⟨_,rfl⟩
     obtain ⟨oj,hoj⟩:∃ o,o=y+j:=⟨_,rfl⟩
     obtain ⟨ok,hok⟩:∃ o,o=y+k:=⟨_,rfl⟩
     refine X.goP ([(70,.ext b oj 0),(71,.int .u8 (.v xj)),(75,.ext b ok 0),(76,.int .u8 (.v xk)),(77,.bool (.v t))]) T119_ok 400 _ rfl Tryz.results119 (fun pr fin hpr hfin=>?_)
     conv=>cbv
     refine ⟨hpr _ (less_call rfl ht),hpr _ (ValOk.im1 rfl Tryz.isAgg5 (fun _=>rfl) fun _=>(by rw [←hxk,hok];exact arrM_in (by omega))),hpr _ (ValOk.im1 rfl Tryz.isAgg5 (fun _=>rfl) fun _=>(by rw [←hxj,hoj];exact arrM_in (by omega))),hpr _ (ValOk.at (z:=k) rfl rfl (fun _=>by first | rfl | (simp (disch:=omega) only [SB.den,SI.den,wrapN]<;>omega)) Tryz.underlying30 Tryz.sizeOf5 (fun _=>by omega) hp (by omega)),hpr _ (ValOk.at (z:=j) rfl rfl (fun _=>by first | rfl | (simp (disch:=omega) only [SB.den,SI.den,wrapN]<;>omega)) Tryz.underlying30 Tryz.sizeOf5 (fun _=>by omega) hp (by omega)),hfin _ _ ?_⟩
     refine X.cond rfl (fun hb=>?_) (fun hb=>?_)
     ·simp only [SB.T,SB.F] at hb
      refine X.go T119_ok 400 _ rfl Tryz.results119 ?_
      conv=>arg 2;cbv
      refine X.back (fun N ac w' hN hf hS=>hqj () ac w' ?_)
      rw [hjk,shiftDown,←hjk,hxj,hxk,←ht,hb,if_pos (by simp)] at hFj
      rw [←hFj]
      exact At.again hf hS (by repeat first | exact trivial | refine ⟨⟨_,rfl,.inl ⟨rfl,rfl⟩⟩,?_⟩ | refine ⟨⟨_,rfl,.inr ⟨_,rfl,rfl⟩⟩,?_⟩ | refine ⟨⟨_,rfl,.inr ⟨_,rfl,(by first | (simp (disch:=omega) only [SV.den,SI.den,wrapN,Option.some.injEq,Value.int.injEq,true_and];done) | (simp (disch:=omega) only [SV.den,SI.den,wrapN,Option.some.injEq,Value.int.injEq,true_and];omega))⟩⟩,?_⟩) trivial
     ·simp only [SB.T,SB.F] at hb
      refine X.take2 hA hn sdj (i:=j) (j:=k) (by omega) (by omega) (by omega) hxj hxk (by simp) (fun N1 _ hN1=>?_)
      have g0:((N1++[⟨b,y+j,1⟩])++[⟨b,y+k,1⟩]:Nums)[0]?=some ⟨b,y+j,1⟩:=num_old (num_last hN1)
      have g1:((N1++[⟨b,y+j,1⟩])++[⟨b,y+k,1⟩]:Nums)[1]?=some ⟨b,y+k,1⟩:=num_last (by simp [hN1])
      refine X.goP ([(87,.own 1 0),(91,.own 0 0),(93,.own 0 0),(94,.own 1 0)]) T119_ok 400 _ rfl Tryz.results119 (fun pr fin hpr hfin=>?_)
      conv=>cbv
      refine ⟨hpr _ (ValOk.row (z:=k) rfl rfl (fun _=>by first | rfl | (simp (disch:=omega) only [SB.den,SI.den,wrapN]<;>omega)) Tryz.underlying30 Tryz.sizeOf5 (by omega) hp g1 rfl (by simp)),hpr _ (ValOk.row (z:=j) rfl rfl (fun _=>by first | rfl | (simp (disch:=omega) only [SB.den,SI.den,wrapN]<;>omega)) Tryz.underlying30 Tryz.sizeOf5 (by omega) hp g0 rfl (by simp)),hpr _ (ValOk.row (z:=j) rfl rfl (fun _=>by first | rfl | (simp (disch:=omega) only [SB.den,SI.den,wrapN]<;>omega)) Tryz.underlying30 Tryz.sizeOf5 (by omega) hp g0 rfl (by simp)),hpr _ (ValOk.row (z:=k) rfl rfl (fun _=>by first | rfl | (simp (disch:=omega) only [SB.den,SI.den,wrapN]<;>omega)) Tryz.underlying30 Tryz.sizeOf5 (by omega) hp g1 rfl (by simp)),hfin _ _ ?_⟩
      refine X.give2 (i:=j) (j:=k) (r:=0) sdj (by omega) (by omega) (by omega) hxj hxk rfl rfl g0 g1 ?_
      refine X.back (fun N ac w' hN hf hS=>hq ⟨(k,swp dj j k),by rw [swpZ_size];exact sdj,by simp only;omega,?_⟩ ac w' (by simp only;omega) ?_)
      ·rw [←hFj];conv=>rhs;rw [hjk,shiftDown,←hjk,hxj,hxk,←ht,hb,if_neg (by simp)]
      ·exact At.again hf hS (by repeat first | exact trivial | refine ⟨⟨_,rfl,.inl ⟨rfl,rfl⟩⟩,?_⟩ | refine ⟨⟨_,rfl,.inr ⟨_,rfl,rfl⟩⟩,?_⟩ | refine ⟨⟨_,rfl,.inr ⟨_,rfl,(by first | (simp (disch:=omega) only [SV.den,SI.den,wrapN,Option.some.injEq,Value.int.injEq,true_and];done) | (simp (disch:=omega) only [SV.den,SI.den,wrapN,Option.some.injEq,Value.int.injEq,true_and];omega))⟩⟩,?_⟩) trivial
    ·simp only [SB.F,SI.den] at hj
     obtain rfl:j=0:=by omega
     refine X.go T119_ok 400 _ rfl Tryz.results119 ?_
     conv=>arg 2;cbv
     refine X.back (fun N ac w' hN hf hS=>hqj () ac w' ?_)
     have hFj:dj=d3:=hFj
     rw [←hFj]
     exact At.again hf hS (by repeat first | exact trivial | refine ⟨⟨_,rfl,.inl ⟨rfl,rfl⟩⟩,?_⟩ | refine ⟨⟨_,rfl,.inr ⟨_,rfl,rfl⟩⟩,?_⟩ | refine ⟨⟨_,rfl,.inr ⟨_,rfl,(by first | (simp (disch:=omega) only [SV.den,SI.den,wrapN,Option.some.injEq,Value.int.injEq,true_and];done) | (simp (disch:=omega) only [SV.den,SI.den,wrapN,Option.some.injEq,Value.int.injEq,true_and];omega))⟩⟩,?_⟩) trivial
   ·simp (disch:=omega) only [SB.F,SI.den,wrapN] at h2
    rw [if_neg (by omega)] at hd3
    refine X.go T119_ok 400 _ rfl Tryz.results119 ?_
    conv=>arg 2;cbv
    refine X.back (fun N ac w' hN hf hS=>hqj () ac w' ?_)
    rw [hd3]
    exact At.again hf hS (by repeat first | exact trivial | refine ⟨⟨_,rfl,.inl ⟨rfl,rfl⟩⟩,?_⟩ | refine ⟨⟨_,rfl,.inr ⟨_,rfl,rfl⟩⟩,?_⟩ | refine ⟨⟨_,rfl,.inr ⟨_,rfl,(by first | (simp (disch:=omega) only [SV.den,SI.den,wrapN,Option.some.injEq,Value.int.injEq,true_and];done) | (simp (disch:=omega) only [SV.den,SI.den,wrapN,Option.some.injEq,Value.int.injEq,true_and];omega))⟩⟩,?_⟩) trivial
  refine X.go T119_ok 400 _ rfl Tryz.results119 ?_
  conv=>arg 2;cbv
  obtain ⟨d4,hd4⟩:∃ x,x=(if e-i2 ≥ 2 then shiftUp ltInt e (i2+1) d3 else d3):=⟨_,rfl⟩
  have sd4:d4.size=n:=by rw [hd4];split;rw [shiftUp_size e _ _ _ (Nat.le_refl _)];exact sd3;exact sd3
  rw [←hd4] at hFi
  refine X.cond rfl (fun h2=>?_) (fun h2=>?_)
  ·simp (disch:=omega) only [SB.T,SI.den,wrapN] at h2
   rw [if_pos (by omega)] at hd4
   refine X.go T119_ok 400 _ rfl Tryz.results119 ?_
   conv=>arg 2;cbv
   refine X.loop (fun g:{g:Nat × Array Int // g.2.size=n∧(i2+1≤g.1∧g.1≤e)∧shiftUp ltInt e g.1 g.2=d4}=>aE Tryz.prog Tryz.f119 _ w b y n (wm w) g.1.2 [] B119) (fun g=>⟨[(0,.val (.slv p n c)),(1,.val (.int .i64 (.nat a))),(2,.val (.int .i64 (.nat e))),(7,.val (.int .i64 (.nat i2))),(8,.val (.int .i64 (.nat cnt))),(10,.val (.int .i64 (.nat g.1.1)))],[]⟩) (fun g=>e-g.1.1) (fun _=>⟨rfl,rfl,rfl,rfl⟩) (fun N ac w' hN hf hS=>⟨⟨(i2+1,d3),sd3,by simp only;omega,hd4.symm⟩,?_⟩) (fun g q hq=>?_)
   ·exact At.again hf hS (by repeat first | exact trivial | refine ⟨⟨_,rfl,.inl ⟨rfl,rfl⟩⟩,?_⟩ | refine ⟨⟨_,rfl,.inr ⟨_,rfl,rfl⟩⟩,?_⟩ | refine ⟨⟨_,rfl,.inr ⟨_,rfl,(by first | (simp (disch:=omega) only [SV.den,SI.den,wrapN,Option.some.injEq,Value.int.injEq,true_and];done) | (simp (disch:=omega) only [SV.den,SI.den,wrapN,Option.some.injEq,Value.int.injEq,true_and];omega))⟩⟩,?_⟩) trivial
   obtain ⟨⟨j,dj⟩,sdj,⟨hj1,hj2⟩,hFj⟩:=g
   simp only at sdj hj1 hj2 hFj
   show X (aE Tryz.prog Tryz.f119 _ w b y n (wm w) dj [] B119) _ ⟨[(0,.val (.slv p n c)),(1,.val (.int .i64 (.nat a))),(2,.val (.int .i64 (.nat e))),(7,.val (.int .i64 (.nat i2))),(8,.val (.int .i64 (.nat cnt))),(10,.val (.int .i64 (.nat j)))],[]⟩
   refine X.go T119_ok 400 _ rfl Tryz.results119 ?_
   conv=>arg 2;cbv
   refine X.cond rfl (fun hj=>?_) (fun hj=>?_)
   ·simp only [SB.T,SI.den] at hj
    rw [shiftUp,if_pos (by omega)] at hFj
    obtain ⟨k,hk⟩:∃ k,k=j-1:=⟨_,rfl⟩
    obtain ⟨xj,hxj⟩:∃ x,dj[j]! = x:=⟨_,rfl⟩
    obtain ⟨xk,hxk⟩:∃ x,dj[k]! = x:=⟨_,rfl⟩
    obtain ⟨t,ht⟩:∃ t,t=ltInt xj xk:=⟨_,rfl⟩
    obtain ⟨oj,hoj⟩:∃ o,o=y+j:=⟨_,rfl⟩
    obtain ⟨ok,hok⟩:∃ o,o=y+k:=⟨_,rfl⟩
    rw [←hk,hxj,hxk,←ht] at hFj
    refine X.goP ([(108,.ext b oj 0),(109,.int .u8 (.v xj)),(113,.ext b ok 0),(114,.int .u8 (.v xk)),(115,.bool (.v t))]) T119_ok 400 _ rfl Tryz.results119 (fun pr fin hpr hfin=>?_)
    conv=>cbv
    refine ⟨hpr _ (less_call rfl ht),hpr _ (ValOk.im1 rfl Tryz.isAgg5 (fun _=>rfl) fun _=>(by rw [←hxk,hok];exact arrM_in (by omega))),hpr _ (ValOk.im1 rfl Tryz.isAgg5 (fun _=>rfl) fun _=>(by rw [←hxj,hoj];exact arrM_in (by omega))),hpr _ (ValOk.at (z:=k) rfl rfl (fun _=>by first | rfl | (simp (disch:=omega) only [SB.den,SI.den,wrapN]<;>omega)) Tryz.underlying30 Tryz.sizeOf5 (fun _=>by omega) hp (by omega)),hpr _ (ValOk.at (z:=j) rfl rfl (fun _=>by first | rfl | (simp (disch:=omega) only [SB.den,SI.den,wrapN]<;>omega)) Tryz.underlying30 Tryz.sizeOf5 (fun _=>by omega) hp (by omega)),hfin _ _ ?_⟩
    refine X.cond rfl (fun hb=>?_) (fun hb=>?_)
    ·simp only [SB.T,SB.F] at hb
     refine X.go T119_ok 400 _ rfl Tryz.results119 ?_
     conv=>arg 2;cbv
     refine X.back (fun N ac w' hN hf hS=>hqm ⟨((cnt+1,i2),d4),sd4,by simp only;omega,by rw [←hFi];show partialIns ltInt a e (5-(cnt+1)) i2 d4=_;rw [show 5-(cnt+1)=4-cnt by omega]⟩ ac w' (by simp only;omega) ?_)
     rw [hb,if_pos (by simp)] at hFj
     show At (aE Tryz.prog Tryz.f119 _ w b y n (wm w) d4 [] B119) ⟨[(0,.val (.slv p n c)),(1,.val (.int .i64 (.nat a))),(2,.val (.int .i64 (.nat e))),(7,.val (.int .i64 (.nat i2))),(8,.val (.int .i64 (.nat (cnt+1))))],[]⟩ ac w'
     rw [←hFj]
     exact At.again hf hS (by repeat first | exact trivial | refine ⟨⟨_,rfl,.inl ⟨rfl,rfl⟩⟩,?_⟩ | refine ⟨⟨_,rfl,.inr ⟨_,rfl,rfl⟩⟩,?_⟩ | refine ⟨⟨_,rfl,.inr ⟨_,rfl,(by first | (simp (disch:=omega) only [SV.den,SI.den,wrapN,Option.some.injEq,Value.int.injEq,true_and];done) | (simp (disch:=omega) only [SV.den,SI.den,wrapN,Option.some.injEq,Value.int.injEq,true_and];omega))⟩⟩,?_⟩) trivial
    ·simp only [SB.T,SB.F] at hb
     refine X.take2 hA hn sdj (i:=j) (j:=k) (by omega) (by omega) (by omega) hxj hxk (by simp) (fun N1 _ hN1=>?_)
     have g0:((N1++[⟨b,y+j,1⟩])++[⟨b,y+k,1⟩]:Nums)[0]?=some ⟨b,y+j,1⟩:=num_old (num_last hN1)
     have g1:((N1++[⟨b,y+j,1⟩])++[⟨b,y+k,1⟩]:Nums)[1]?=some ⟨b,y+k,1⟩:=num_last (by simp [hN1])
     refine X.goP ([(125,.own 1 0),(129,.own 0 0),(131,.own 0 0),(132,.own 1 0)]) T119_ok 400 _ rfl Tryz.results119 (fun pr fin hpr hfin=>?_)
     conv=>cbv
     refine ⟨hpr _ (ValOk.row (z:=k) rfl rfl (fun _=>by first | rfl | (simp (disch:=omega) only [SB.den,SI.den,wrapN]<;>omega)) Tryz.underlying30 Tryz.sizeOf5 (by omega) hp g1 rfl (by simp)),hpr _ (ValOk.row (z:=j) rfl rfl (fun _=>by first | rfl | (simp (disch:=omega) only [SB.den,SI.den,wrapN]<;>omega)) Tryz.underlying30 Tryz.sizeOf5 (by omega) hp g0 rfl (by simp)),hpr _ (ValOk.row (z:=j) rfl rfl (fun _=>by first | rfl | (simp (disch:=omega) only [SB.den,SI.den,wrapN]<;>omega)) Tryz.underlying30 Tryz.sizeOf5 (by omega) hp g0 rfl (by simp)),hpr _ (ValOk.row (z:=k) rfl rfl (fun _=>by first | rfl | (simp (disch:=omega) only [SB.den,SI.den,wrapN]<;>omega)) Tryz.underlying30 Tryz.sizeOf5 (by omega) hp g1 rfl (by simp)),hfin _ _ ?_⟩
     refine X.give2 (i:=j) (j:=k) (r:=0) sdj (by omega) (by omega) (by omega) hxj hxk rfl rfl g0 g1 ?_
     refine X.back (fun N ac w' hN hf hS=>hq ⟨(j+1,swp dj j k),by rw [swpZ_size];exact sdj,by simp only;omega,?_⟩ ac w' (by simp only;omega) ?_)
     ·rw [←hFj,hb,if_neg (by simp)]
     ·exact At.again hf hS (by repeat first | exact trivial | refine ⟨⟨_,rfl,.inl ⟨rfl,rfl⟩⟩,?_⟩ | refine ⟨⟨_,rfl,.inr ⟨_,rfl,rfl⟩⟩,?_⟩ | refine ⟨⟨_,rfl,.inr ⟨_,rfl,(by first | (simp (disch:=omega) only [SV.den,SI.den,wrapN,Option.some.injEq,Value.int.injEq,true_and];done) | (simp (disch:=omega) only [SV.den,SI.den,wrapN,Option.some.injEq,Value.int.injEq,true_and];omega))⟩⟩,?_⟩) trivial
   ·simp only [SB.F,SI.den] at hj
    rw [shiftUp,if_neg (by omega)] at hFj
    refine X.go T119_ok 400 _ rfl Tryz.results119 ?_
    conv=>arg 2;cbv
    refine X.back (fun N ac w' hN hf hS=>hqm ⟨((cnt+1,i2),d4),sd4,by simp only;omega,by rw [←hFi];show partialIns ltInt a e (5-(cnt+1)) i2 d4=_;rw [show 5-(cnt+1)=4-cnt by omega]⟩ ac w' (by simp only;omega) ?_)
    show At (aE Tryz.prog Tryz.f119 _ w b y n (wm w) d4 [] B119) ⟨[(0,.val (.slv p n c)),(1,.val (.int .i64 (.nat a))),(2,.val (.int .i64 (.nat e))),(7,.val (.int .i64 (.nat i2))),(8,.val (.int .i64 (.nat (cnt+1))))],[]⟩ ac w'
    rw [←hFj]
    exact At.again hf hS (by repeat first | exact trivial | refine ⟨⟨_,rfl,.inl ⟨rfl,rfl⟩⟩,?_⟩ | refine ⟨⟨_,rfl,.inr ⟨_,rfl,rfl⟩⟩,?_⟩ | refine ⟨⟨_,rfl,.inr ⟨_,rfl,(by first | (simp (disch:=omega) only [SV.den,SI.den,wrapN,Option.some.injEq,Value.int.injEq,true_and];done) | (simp (disch:=omega) only [SV.den,SI.den,wrapN,Option.some.injEq,Value.int.injEq,true_and];omega))⟩⟩,?_⟩) trivial
  ·simp (disch:=omega) only [SB.F,SI.den,wrapN] at h2
   rw [if_neg (by omega)] at hd4
   refine X.go T119_ok 400 _ rfl Tryz.results119 ?_
   conv=>arg 2;cbv
   refine X.back (fun N ac w' hN hf hS=>hqm ⟨((cnt+1,i2),d4),sd4,by simp only;omega,by rw [←hFi];show partialIns ltInt a e (5-(cnt+1)) i2 d4=_;rw [show 5-(cnt+1)=4-cnt by omega]⟩ ac w' (by simp only;omega) ?_)
   show At (aE Tryz.prog Tryz.f119 _ w b y n (wm w) d4 [] B119) ⟨[(0,.val (.slv p n c)),(1,.val (.int .i64 (.nat a))),(2,.val (.int .i64 (.nat e))),(7,.val (.int .i64 (.nat i2))),(8,.val (.int .i64 (.nat (cnt+1))))],[]⟩ ac w'
   rw [hd4]
   exact At.again hf hS (by repeat first | exact trivial | refine ⟨⟨_,rfl,.inl ⟨rfl,rfl⟩⟩,?_⟩ | refine ⟨⟨_,rfl,.inr ⟨_,rfl,rfl⟩⟩,?_⟩ | refine ⟨⟨_,rfl,.inr ⟨_,rfl,(by first | (simp (disch:=omega) only [SV.den,SI.den,wrapN,Option.some.injEq,Value.int.injEq,true_and];done) | (simp (disch:=omega) only [SV.den,SI.den,wrapN,Option.some.injEq,Value.int.injEq,true_and];omega))⟩⟩,?_⟩) trivial
 simp only [SB.F,SI.den] at hc5
 obtain rfl:cnt=5:=by omega
 have hFi:(d1,false)=R:=hFi
 refine X.go T119_ok 400 _ rfl Tryz.results119 ?_
 conv=>arg 2;cbv
 refine X.done T119_ok rfl (fun N w' v hN hS hv=>⟨?_,?_⟩)
 ·simp only [resV,SV.den,SV.denL,SI.den,SB.den,Option.some.injEq] at hv
  rw [←hv,←hFi]
 ·rw [←hFi]
  exact Sat.arr hS hA hn sd1
end Go.Proofs.YthpbefahaghbjaaGreat
namespace Go.Proofs
open Go.Shelf
def Tryz.sortL_ren:Go.Shelf.Ren:=⟨fun | 6=>105 | 15=>60 | 14=>113 | 28=>77 | 29=>78 | 20=>124 | 21=>125 | 22=>126 | 23=>127 | 24=>128 | 25=>129 | 26=>130 | 27=>131 | 46=>135 | 47=>92 | 48=>93 | 49=>136 | 50=>137 | 57=>139 | n=>n,fun | 22=>135 | 24=>148 | 25=>155 | 3=>3 | 39=>113 | 0=>0 | 53=>33 | 55=>29 | 4=>4 | 46=>122 | 45=>121 | 50=>126 | 5=>5 | 9=>9 | 66=>140 | 70=>144 | 76=>157 | 77=>158 | n=>n,fun | n=>n⟩
theorem Tryz.sortL:Go.Proofs.SlLaysF0.n6 Tryz.prog Tryz.sortL_ren:={
 mixed:=(by kernel_rfl),
 f6:=⟨ "slices.SortFunc[[]scrutineer/api.Point,scrutineer/api.Point]",by decide,Tryz.func105.trans (congrArg some (by kernel_rfl))⟩,
 f14:=⟨ "slices.pdqsortCmpFunc[scrutineer/api.Point]",by decide,Tryz.func113.trans (congrArg some (by kernel_rfl))⟩,
 f15:=Tryz.func60.trans (congrArg some (by kernel_rfl)),
 f20:=⟨ "slices.insertionSortCmpFunc[scrutineer/api.Point]",by decide,Tryz.func124.trans (congrArg some (by kernel_rfl))⟩,
 f21:=⟨ "slices.heapSortCmpFunc[scrutineer/api.Point]",by decide,Tryz.func125.trans (congrArg some (by kernel_rfl))⟩,
 f22:=⟨ "slices.breakPatternsCmpFunc[scrutineer/api.Point]",by decide,Tryz.func126.trans (congrArg some (by kernel_rfl))⟩,
 f23:=⟨ "slices.choosePivotCmpFunc[scrutineer/api.Point]",by decide,Tryz.func127.trans (congrArg some (by kernel_rfl))⟩,
 f24:=⟨ "slices.reverseRangeCmpFunc[scrutineer/api.Point]",by decide,Tryz.func128.trans (congrArg some (by kernel_rfl))⟩,
 f25:=⟨ "slices.partialInsertionSortCmpFunc[scrutineer/api.Point]",by decide,Tryz.func129.trans (congrArg some (by kernel_rfl))⟩,
 f26:=⟨ "slices.partitionEqualCmpFunc[scrutineer/api.Point]",by decide,Tryz.func130.trans (congrArg some (by kernel_rfl))⟩,
 f27:=⟨ "slices.partitionCmpFunc[scrutineer/api.Point]",by decide,Tryz.func131.trans (congrArg some (by kernel_rfl))⟩,
 f28:=Tryz.func77.trans (congrArg some (by kernel_rfl)),
 f29:=Tryz.func78.trans (congrArg some (by kernel_rfl)),
 f46:=⟨ "slices.siftDownCmpFunc[scrutineer/api.Point]",by decide,Tryz.func135.trans (congrArg some (by kernel_rfl))⟩,
 f47:=Tryz.func92.trans (congrArg some (by kernel_rfl)),
 f48:=Tryz.func93.trans (congrArg some (by kernel_rfl)),
 f49:=⟨ "slices.medianAdjacentCmpFunc[scrutineer/api.Point]",by decide,Tryz.func136.trans (congrArg some (by kernel_rfl))⟩,
 f50:=⟨ "slices.medianCmpFunc[scrutineer/api.Point]",by decide,Tryz.func137.trans (congrArg some (by kernel_rfl))⟩,
 f57:=⟨ "slices.order2CmpFunc[scrutineer/api.Point]",by decide,Tryz.func139.trans (congrArg some (by kernel_rfl))⟩,
 t0:=Tryz.underlying0,
 a0:=Tryz.isAgg0,
 z0:=Tryz.sizeOf0,
 v0:=Tryz.zeroValue0,
 t3:=Tryz.underlying3,
 a3:=Tryz.isAgg3,
 z3:=Tryz.sizeOf3,
 v3:=Tryz.zeroValue3,
 t4:=Tryz.underlying4,
 a4:=Tryz.isAgg4,
 z4:=Tryz.sizeOf4,
 v4:=Tryz.zeroValue4,
 t5:=Tryz.underlying5,
 a5:=Tryz.isAgg5,
 z5:=Tryz.sizeOf5,
 v5:=Tryz.zeroValue5,
 t9:=Tryz.underlying9,
 a9:=Tryz.isAgg9,
 z9:=Tryz.sizeOf9,
 v9:=Tryz.zeroValue9,
 t22:=Tryz.underlying135,
 a22:=Tryz.isAgg135,
 z22:=Tryz.sizeOf135,
 v22:=Tryz.zeroValue135,
 t25:=Tryz.underlying155,
 a25:=Tryz.isAgg155,
 z25:=Tryz.sizeOf155,
 v25:=Tryz.zeroValue155,
 t39:=Tryz.underlying113,
 a39:=Tryz.isAgg113,
 z39:=Tryz.sizeOf113,
 v39:=Tryz.zeroValue113,
 t45:=Tryz.underlying121,
 a45:=Tryz.isAgg121,
 z45:=Tryz.sizeOf121,
 v45:=Tryz.zeroValue121,
 t46:=Tryz.underlying122,
 a46:=Tryz.isAgg122,
 z46:=Tryz.sizeOf122,
 v46:=Tryz.zeroValue122,
 t50:=Tryz.underlying126,
 a50:=Tryz.isAgg126,
 z50:=Tryz.sizeOf126,
 v50:=Tryz.zeroValue126,
 t53:=Tryz.underlying33,
 a53:=Tryz.isAgg33,
 z53:=Tryz.sizeOf33,
 v53:=Tryz.zeroValue33,
 t55:=Tryz.underlying29,
 a55:=Tryz.isAgg29,
 z55:=Tryz.sizeOf29,
 v55:=Tryz.zeroValue29,
 t66:=Tryz.underlying140,
 a66:=Tryz.isAgg140,
 z66:=Tryz.sizeOf140,
 v66:=Tryz.zeroValue140,
 t70:=Tryz.underlying144,
 a70:=Tryz.isAgg144,
 z70:=Tryz.sizeOf144,
 v70:=Tryz.zeroValue144,
 t76:=Tryz.underlying157,
 a76:=Tryz.isAgg157,
 z76:=Tryz.sizeOf157,
 v76:=Tryz.zeroValue157,
 t77:=Tryz.underlying158,
 a77:=Tryz.isAgg158,
 z77:=Tryz.sizeOf158,
 v77:=Tryz.zeroValue158 }
def Tryz.xorL_ren:Go.Shelf.Ren:=⟨fun | 48=>93 | n=>n,fun | 76=>157 | 55=>29 | 0=>0 | 66=>140 | 39=>113 | n=>n,fun | n=>n⟩
theorem Tryz.xorL:Go.Proofs.SlLaysF0.n48 Tryz.prog Tryz.xorL_ren:={
 mixed:=(by kernel_rfl),
 f48:=Tryz.func93.trans (congrArg some (by kernel_rfl)),
 t0:=Tryz.underlying0,
 a0:=Tryz.isAgg0,
 z0:=Tryz.sizeOf0,
 v0:=Tryz.zeroValue0,
 t39:=Tryz.underlying113,
 a39:=Tryz.isAgg113,
 z39:=Tryz.sizeOf113,
 v39:=Tryz.zeroValue113,
 t55:=Tryz.underlying29,
 a55:=Tryz.isAgg29,
 z55:=Tryz.sizeOf29,
 v55:=Tryz.zeroValue29,
 t66:=Tryz.underlying140,
 a66:=Tryz.isAgg140,
 z66:=Tryz.sizeOf140,
 v66:=Tryz.zeroValue140,
 t76:=Tryz.underlying157,
 a76:=Tryz.isAgg157,
 z76:=Tryz.sizeOf157,
 v76:=Tryz.zeroValue157 }
def Tryz.npowL_ren:Go.Shelf.Ren:=⟨fun | 47=>92 | 15=>60 | 28=>77 | 29=>78 | n=>n,fun | 3=>3 | 39=>113 | 53=>33 | 55=>29 | 4=>4 | 5=>5 | 9=>9 | n=>n,fun | n=>n⟩
theorem Tryz.npowL:Go.Proofs.SlLaysF0.n47 Tryz.prog Tryz.npowL_ren:={
 mixed:=(by kernel_rfl),
 f15:=Tryz.func60.trans (congrArg some (by kernel_rfl)),
 f28:=Tryz.func77.trans (congrArg some (by kernel_rfl)),
 f29:=Tryz.func78.trans (congrArg some (by kernel_rfl)),
 f47:=Tryz.func92.trans (congrArg some (by kernel_rfl)),
 t3:=Tryz.underlying3,
 a3:=Tryz.isAgg3,
 z3:=Tryz.sizeOf3,
 v3:=Tryz.zeroValue3,
 t4:=Tryz.underlying4,
 a4:=Tryz.isAgg4,
 z4:=Tryz.sizeOf4,
 v4:=Tryz.zeroValue4,
 t5:=Tryz.underlying5,
 a5:=Tryz.isAgg5,
 z5:=Tryz.sizeOf5,
 v5:=Tryz.zeroValue5,
 t9:=Tryz.underlying9,
 a9:=Tryz.isAgg9,
 z9:=Tryz.sizeOf9,
 v9:=Tryz.zeroValue9,
 t39:=Tryz.underlying113,
 a39:=Tryz.isAgg113,
 z39:=Tryz.sizeOf113,
 v39:=Tryz.zeroValue113,
 t53:=Tryz.underlying33,
 a53:=Tryz.isAgg33,
 z53:=Tryz.sizeOf33,
 v53:=Tryz.zeroValue33,
 t55:=Tryz.underlying29,
 a55:=Tryz.isAgg29,
 z55:=Tryz.sizeOf29,
 v55:=Tryz.zeroValue29 }
def Tryz.lenL_ren:Go.Shelf.Ren:=⟨fun | 15=>60 | 28=>77 | 29=>78 | n=>n,fun | 39=>113 | 3=>3 | 53=>33 | 55=>29 | 4=>4 | 5=>5 | 9=>9 | n=>n,fun | n=>n⟩
theorem Tryz.lenL:Go.Proofs.SlLaysF0.n15 Tryz.prog Tryz.lenL_ren:={
 mixed:=(by kernel_rfl),
 f15:=Tryz.func60.trans (congrArg some (by kernel_rfl)),
 f28:=Tryz.func77.trans (congrArg some (by kernel_rfl)),
 f29:=Tryz.func78.trans (congrArg some (by kernel_rfl)),
 t3:=Tryz.underlying3,
 a3:=Tryz.isAgg3,
 z3:=Tryz.sizeOf3,
 v3:=Tryz.zeroValue3,
 t4:=Tryz.underlying4,
 a4:=Tryz.isAgg4,
 z4:=Tryz.sizeOf4,
 v4:=Tryz.zeroValue4,
 t5:=Tryz.underlying5,
 a5:=Tryz.isAgg5,
 z5:=Tryz.sizeOf5,
 v5:=Tryz.zeroValue5,
 t9:=Tryz.underlying9,
 a9:=Tryz.isAgg9,
 z9:=Tryz.sizeOf9,
 v9:=Tryz.zeroValue9,
 t39:=Tryz.underlying113,
 a39:=Tryz.isAgg113,
 z39:=Tryz.sizeOf113,
 v39:=Tryz.zeroValue113,
 t53:=Tryz.underlying33,
 a53:=Tryz.isAgg33,
 z53:=Tryz.sizeOf33,
 v53:=Tryz.zeroValue33,
 t55:=Tryz.underlying29,
 a55:=Tryz.isAgg29,
 z55:=Tryz.sizeOf29,
 v55:=Tryz.zeroValue29 }
def Tryz.compactL_ren:Go.Shelf.Ren:=⟨fun | 43=>103 | n=>n,fun | 22=>30 | 23=>5 | 3=>3 | 4=>4 | 0=>0 | n=>n,fun | n=>n⟩
theorem Tryz.compactL:Go.Proofs.SlLaysE.n43 Tryz.prog Tryz.compactL_ren:={
 mixed:=(by kernel_rfl),
 f43:=⟨ "slices.Compact[[]uint8,uint8]",by decide,Tryz.func103.trans (congrArg some (by kernel_rfl))⟩,
 t0:=Tryz.underlying0,
 a0:=Tryz.isAgg0,
 z0:=Tryz.sizeOf0,
 v0:=Tryz.zeroValue0,
 t3:=Tryz.underlying3,
 a3:=Tryz.isAgg3,
 z3:=Tryz.sizeOf3,
 v3:=Tryz.zeroValue3,
 t4:=Tryz.underlying4,
 a4:=Tryz.isAgg4,
 z4:=Tryz.sizeOf4,
 v4:=Tryz.zeroValue4,
 t22:=Tryz.underlying30,
 a22:=Tryz.isAgg30,
 z22:=Tryz.sizeOf30,
 v22:=Tryz.zeroValue30,
 a23:=Tryz.isAgg5,
 z23:=Tryz.sizeOf5 }
def Tryz.searchL_ren:Go.Shelf.Ren:=⟨fun | 16=>101 | n=>n,fun | 3=>3 | 35=>152 | 4=>4 | 38=>113 | n=>n,fun | n=>n⟩
theorem Tryz.searchL:Go.Proofs.SlLaysO.n16 Tryz.prog Tryz.searchL_ren:={
 mixed:=(by kernel_rfl),
 f16:=Tryz.func101.trans (congrArg some (by kernel_rfl)),
 t3:=Tryz.underlying3,
 a3:=Tryz.isAgg3,
 z3:=Tryz.sizeOf3,
 v3:=Tryz.zeroValue3,
 t4:=Tryz.underlying4,
 a4:=Tryz.isAgg4,
 z4:=Tryz.sizeOf4,
 v4:=Tryz.zeroValue4,
 t35:=Tryz.underlying152,
 a35:=Tryz.isAgg152,
 z35:=Tryz.sizeOf152,
 v35:=Tryz.zeroValue152,
 t38:=Tryz.underlying113,
 a38:=Tryz.isAgg113,
 z38:=Tryz.sizeOf113,
 v38:=Tryz.zeroValue113 }
end Go.Proofs
