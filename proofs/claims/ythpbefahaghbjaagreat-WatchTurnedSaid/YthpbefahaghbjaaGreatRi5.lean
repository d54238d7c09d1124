import Derived.Test.YthpbefahaghbjaaGreatLy
import Derived.Shelf.SlicesE.Compact
import Derived.Shelf.SlicesE.Kit
import Derived.Test.YthpbefahaghbjaaGreatEC
set_option maxHeartbeats 16000000
set_option maxRecDepth 100000
set_option cbv.maxSteps 100000000
namespace Go.Proofs.YthpbefahaghbjaaGreat
open Go Go.Eng Go.Sort
theorem Chg.drewN {w:World} (k:Nat):Chg (fun _ _=>False) w (w.drewN k):=⟨rfl,rfl,rfl,Nat.le_refl _,Nat.le_add_right _ _,fun _ _ _=>rfl,fun _ c _ _ h=>⟨c,h,rfl,fun _ _=>rfl⟩⟩
theorem npow_ok (n:Nat) (hn:n<4611686018427387904) (w:World):Calls Tryz.prog 92 #[.int .i64 n] w fun e w'=>e=.returned (.int .u64 ((1 <<< bitsLen n:Nat):Int))∧w'=w :=
 AnyF.nextPowerOfTwo Tryz.npowL n hn w
theorem next_ok (rb ro X:Nat) (hX:X<18446744073709551616) (w:World) (hc:w.cell? ⟨rb,ro,none⟩=some (.int .u64 X)) (hf:w.frozen? ⟨rb,ro,none⟩=false) :
  Calls Tryz.prog 93 #[.pointer (some ⟨rb,ro,none⟩)] w fun e w'=>∃ r:Nat,r<18446744073709551616∧e=.returned (.int .u64 r)∧w'.cell? ⟨rb,ro,none⟩=some (.int .u64 r)∧Chg (fun k i=>k=rb∧ro≤i∧i<ro+1) w w':=by
 refine Calls.mono (AnyF.xorshift_Next Tryz.xorL rb ro X hX w hc hf) fun e w' ⟨h1,h2⟩=>⟨xorNextN X,?_,h1,?_,?_⟩
 ·exact xorNextN_lt X hX
 ·rw [h2];exact World.cell?_setCell_same _ _ _ hc
 ·rw [h2];exact ((Chg.refl _ w).setCell (.inr ⟨rfl,Nat.le_refl _,by omega⟩) _).trans ((Chg.drewN 3).mono (fun _ _ _ h=>h.elim)) (fun _ _ _ h=>h)
theorem wrapM (z:Int) (h:0≤z) (h2:z<18446744073709551616):IntKind.u64.wrap z=z:=by
 simp [IntKind.wrap,IntKind.bits,IntKind.signed];omega
theorem and_small (x:Int) (m:Nat) (hm:m<4611686018427387904):∃ o:Nat,o≤m∧bitsI .and .u64 x (m:Int)=(o:Int):=by
 refine ⟨(BitVec.ofInt 64 x &&& BitVec.ofInt 64 (m:Int)).toNat,?_,?_⟩
 ·rw [BitVec.toNat_and]
  refine Nat.le_trans Nat.and_le_right ?_
  simp [BitVec.ofInt,BitVec.toNat_ofNat]
  omega
 ·have h:(BitVec.ofInt 64 x &&& BitVec.ofInt 64 (m:Int)).toNat<18446744073709551616:=(BitVec.ofInt 64 x &&& BitVec.ofInt 64 (m:Int)).isLt
  show IntKind.u64.wrap ((BitVec.ofInt 64 x &&& BitVec.ofInt 64 (m:Int)).toNat:Int)=_
  exact wrapM _ (Int.natCast_nonneg _) (by omega)
theorem brk8_ok (b y n c a e:Nat) (d:Array Int) (w:World) (hA:AtA w b y d) (hn:d.size=n) (hae:a≤e) (hen:e≤n) (hbig:n<2305843009213693952) :
  Calls Tryz.prog 116 #[.slice (some ⟨b,y,none⟩) n c,.int .i64 a,.int .i64 e] w fun en w'=>∃ d',PermIn a e d d'∧PostA b y n w d' en w':=by
 obtain ⟨p,hp⟩:∃ p,p=some (Addr.mk b y none):=⟨_,rfl⟩
 obtain ⟨l,hl⟩:∃ l,l=e-a:=⟨_,rfl⟩
 rw [←hp]
 have sd:=hn
 refine X.beginA hA hn (ss:=[.slv p n c,.int .i64 (.nat a),.int .i64 (.nat e)]) Tryz.func116 rfl B116_ok rfl rfl ?_
 refine X.go T116_ok 400 _ rfl Tryz.results116 ?_
 conv=>arg 2;cbv
 refine X.reval 6 (.int .i64 (.nat l)) rfl (fun N _ v hv=>by rw [←hv];simp (disch:=omega) only [SV.den,SI.den,wrapN,Int.tdiv_eq_ediv_of_nonneg,Option.some.injEq,Value.int.injEq,true_and]<;>omega) ?_
 refine X.cond rfl (fun h8=>?_) (fun h8=>?_)
 ·simp (disch:=omega) only [SB.T,SI.den,wrapN] at h8
  refine X.go T116_ok 400 _ rfl Tryz.results116 ?_
  conv=>arg 2;cbv
  refine X.call rfl rfl rfl rfl Tryz.call92 (fun N w1 args hN hS ha=>?_)
  have ha:args=[.int .i64 l]:=(Option.some.inj ha).symm
  rw [ha]
  obtain ⟨M,hM⟩:∃ M,M=1 <<< bitsLen l:=⟨_,rfl⟩
  have hM1:1≤M:=by rw [hM,Nat.one_shiftLeft];exact Nat.one_le_two_pow
  have hM2:M≤2*l:=by rw [hM,Nat.one_shiftLeft];exact two_pow_bitsLen_le (by omega)
  have key:=npow_ok l (by omega) w1
  rw [←hM] at key
  refine Calls.mono key fun en w' ⟨he,hw⟩=>⟨_,he,?_⟩
  subst hw
  refine Goes.same hN hS (Chg.refl _ _) (r:=.int .u64 (.nat M)) rfl rfl ?_
  refine X.recell1 0 0 (.int .u64 (.nat l)) rfl rfl (fun N _ v hv=>by rw [←hv];simp (disch:=omega) only [SV.den,SI.den,wrapN,wrapM]) ?_
  clear hM key
  refine X.go T116_ok 400 _ rfl Tryz.results116 ?_
  conv=>arg 2;cbv
  refine X.loop (fun g:{g:(Nat × Nat) × Array Int // g.2.size=n∧(a+l / 4*2-1≤g.1.1∧g.1.1≤a+l / 4*2+2∧g.1.2<18446744073709551616)∧PermIn a e d g.2}=>aE Tryz.prog Tryz.f116 _ w b y n (wm w) g.1.2 [] B116) (fun g=>⟨[(0,.val (.slv p n c)),(1,.val (.int .i64 (.nat a))),(6,.val (.int .i64 (.nat l))),(7,.val (.own 0 0)),(8,.val (.int .u64 (.nat M))),(9,.val (.int .i64 (.nat g.1.1.1)))],[⟨true,[.int .u64 (.nat g.1.1.2)],none⟩]⟩) (fun g=>a+l / 4*2+2-g.1.1.1) (fun _=>⟨rfl,rfl,rfl,rfl⟩) (fun N ac w' hN hf hS=>⟨⟨((a+l / 4*2-1,l),d),hn,by simp only;omega,permIn_refl d a e⟩,?_⟩) (fun g q hq=>?_)
  ·refine At.again hf hS (by repeat first | exact trivial | refine ⟨⟨_,rfl,.inl ⟨rfl,rfl⟩⟩,?_⟩ | refine ⟨⟨_,rfl,.inr ⟨_,rfl,rfl⟩⟩,?_⟩ | refine ⟨⟨_,rfl,.inr ⟨_,rfl,(by simp (disch:=omega) only [SV.den,SI.den,wrapN,Int.tdiv_eq_ediv_of_nonneg,Option.some.injEq,Value.int.injEq,true_and];omega)⟩⟩,?_⟩) (by repeat first | exact trivial | refine ⟨fun h=>h,SubC.refl rfl,rfl,?_⟩)
  obtain ⟨⟨⟨i,r⟩,d1⟩,sd1,⟨hi1,hi2,hr⟩,hP1⟩:=g
  simp only at sd1 hi1 hi2 hr hP1
  show X (aE Tryz.prog Tryz.f116 _ w b y n (wm w) d1 [] B116) _ ⟨[(0,.val (.slv p n c)),(1,.val (.int .i64 (.nat a))),(6,.val (.int .i64 (.nat l))),(7,.val (.own 0 0)),(8,.val (.int .u64 (.nat M))),(9,.val (.int .i64 (.nat i)))],[⟨true,[.int .u64 (.nat r)],none⟩]⟩
  refine X.namesP (fun N=>∃ pn:Num,N[0]?=some pn∧1≤pn.x) (fun N w1 _ hS=>?_) (fun N1 _ hNl hP=>?_)
  ·obtain ⟨pn,hpn⟩:∃ pn,N[0]?=some pn:=⟨_,List.getElem?_eq_getElem (by rw [hS.len];simp)⟩
   exact ⟨pn,hpn,hS.ext 0 _ pn rfl hpn rfl⟩
  obtain ⟨pn,hpA,hx1⟩:=hP
  refine X.go T116_ok 400 _ rfl Tryz.results116 ?_
  conv=>arg 2;cbv
  refine X.cond rfl (fun hle=>?_) (fun hgt=>?_)
  ·simp (disch:=omega) only [SB.T,SI.den,wrapN,Int.tdiv_eq_ediv_of_nonneg] at hle
   refine X.go T116_ok 400 _ rfl Tryz.results116 ?_
   conv=>arg 2;cbv
   refine X.call rfl rfl rfl rfl Tryz.call93 (fun N w1 args hN hS ha=>?_)
   have hp0:N[0]?=some pn:=hN 0 _ hpA
   have cell0:w1.cell? ⟨pn.b,pn.o,none⟩=some (.int .u64 r):=by
    obtain ⟨v0,k1,k2⟩:=hS.cell 0 _ _ rfl hp0 0 _ rfl
    simp only [SV.den,SI.den,Option.some.injEq] at k1
    subst k1
    exact k2
   have hz1:w1.frozen? ⟨pn.b,pn.o,none⟩=false:=(hS.room 0 _ _ rfl hp0 rfl 0 hx1).2
   simp only [SV.denL,SV.den,hp0,SI.den,Option.some.injEq] at ha
   subst ha
   refine Calls.mono (next_ok pn.b pn.o r hr w1 cell0 hz1) fun en w' ⟨r',hr',he,hcell,hc'⟩=>⟨_,he,Goes.cells (r:=0) hN hS rfl hp0 rfl (hc'.mono fun k o _ ⟨e1,e2,e3⟩=>⟨e1,e2,by omega⟩) [.int .u64 (.nat r')] hx1 (fun q c hq=>by cases q with
    | zero=>simp at hq;subst hq;exact ⟨_,rfl,hcell⟩
    | succ q=>simp at hq) (rv:=.int .u64 (.nat r')) rfl rfl ?_⟩
   refine X.go T116_ok 400 _ rfl Tryz.results116 ?_
   conv=>arg 2;cbv
   obtain ⟨o,ho1,ho2⟩:=and_small (r':Int) (M-1) (by omega)
   refine X.reval 10 (.int .i64 (.nat o)) rfl (fun N _ v hv=>by rw [←hv];simp (disch:=omega) only [SV.den,SI.den,wrapM,show (M:Int)-1=((M-1:Nat):Int) by omega,ho2,wrapN]) ?_
   refine X.cond rfl (fun hol=>?_) (fun hol=>?_)
   ·simp (disch:=omega) only [SB.T,SI.den,wrapM,show (M:Int)-1=((M-1:Nat):Int) by omega,ho2,wrapN] at hol
    obtain ⟨o2,ho3⟩:∃ k,k=o-l:=⟨_,rfl⟩
    refine X.go T116_ok 5 _ rfl Tryz.results116 ?_
    conv=>arg 2;cbv
    refine X.reval 10 (.int .i64 (.nat o2)) rfl (fun N _ v hv=>by rw [←hv];simp (disch:=omega) only [SV.den,SI.den,wrapN,Int.tdiv_eq_ediv_of_nonneg,Option.some.injEq,Value.int.injEq,true_and]<;>omega) ?_
    obtain ⟨xi,hxi⟩:∃ x,d1[i]! = x:=⟨_,rfl⟩
    obtain ⟨xj,hxj⟩:∃ x,d1[a+o2]! = x:=⟨_,rfl⟩
    have hps:PermIn a e d1 (swp d1 i (a+o2)):=swp_permIn d1 a e i (a+o2) (by omega) (by omega) (by omega) (by omega) (by omega)
    by_cases hij:i=a+o2
    ·refine X.take1 hA hn sd1 (i:=i) (by omega) hxi (by simp) (fun N2 hN2 hl2=>?_)
     have g0:(N2++[⟨b,y+i,1⟩]:Nums)[1]?=some ⟨b,y+i,1⟩:=num_last hl2
     refine X.goP ([(57,.own 1 0),(61,.own 1 0),(63,.own 1 0),(64,.own 1 0)]) T116_ok 400 _ rfl Tryz.results116 (fun pr fin hpr hfin=>?_)
     conv=>cbv
     refine ⟨hpr _ (ValOk.row (z:=i) rfl rfl (fun _=>by first | rfl | (simp (disch:=omega) only [SB.den,SI.den,wrapN]<;>omega)) Tryz.underlying30 Tryz.sizeOf5 (by omega) hp g0 rfl (by simp)),hpr _ (ValOk.row (z:=i) rfl rfl (fun _=>by first | rfl | (simp (disch:=omega) only [SB.den,SI.den,wrapN]<;>omega)) Tryz.underlying30 Tryz.sizeOf5 (by omega) hp g0 rfl (by simp)),hpr _ (ValOk.row (z:=i) rfl rfl (fun _=>by first | rfl | (simp (disch:=omega) only [SB.den,SI.den,wrapN]<;>omega)) Tryz.underlying30 Tryz.sizeOf5 (by omega) hp g0 rfl (by simp)),hpr _ (ValOk.row (z:=i) rfl rfl (fun _=>by first | rfl | (simp (disch:=omega) only [SB.den,SI.den,wrapN]<;>omega)) Tryz.underlying30 Tryz.sizeOf5 (by omega) hp g0 rfl (by simp)),hfin _ _ ?_⟩
     refine X.give1 (i:=i) (r:=1) sd1 (by omega) hxi rfl g0 ?_
     refine X.back (fun N ac w' hN hf hS=>hq ⟨((i+1,r'),swp d1 i (a+o2)),by rw [swpZ_size];exact sd1,by simp only;omega,permIn_trans _ _ _ a e hP1 hps⟩ ac w' (by simp only;omega) ?_)
     show At (aE Tryz.prog Tryz.f116 _ w b y n (wm w) (swp d1 i (a+o2)) [] B116) ⟨[(0,.val (.slv p n c)),(1,.val (.int .i64 (.nat a))),(6,.val (.int .i64 (.nat l))),(7,.val (.own 0 0)),(8,.val (.int .u64 (.nat M))),(9,.val (.int .i64 (.nat (i+1))))],[⟨true,[.int .u64 (.nat r')],none⟩]⟩ ac w'
     rw [←hij,swpZ_self (by omega)]
     exact At.again hf hS (by repeat first | exact trivial | refine ⟨⟨_,rfl,.inl ⟨rfl,rfl⟩⟩,?_⟩ | refine ⟨⟨_,rfl,.inr ⟨_,rfl,rfl⟩⟩,?_⟩ | refine ⟨⟨_,rfl,.inr ⟨_,rfl,(by first | (simp (disch:=omega) only [SV.den,SI.den,wrapN,Option.some.injEq,Value.int.injEq,true_and];done) | (simp (disch:=omega) only [SV.den,SI.den,wrapN,Option.some.injEq,Value.int.injEq,true_and];omega))⟩⟩,?_⟩) (by repeat first | exact trivial | refine ⟨fun h=>h,SubC.refl rfl,rfl,?_⟩)
    ·refine X.take2 hA hn sd1 (i:=i) (j:=a+o2) hij (by omega) (by omega) hxi hxj (by simp) (fun N2 hN2 hl2=>?_)
     have g0:((N2++[⟨b,y+i,1⟩])++[⟨b,y+(a+o2),1⟩]:Nums)[1]?=some ⟨b,y+i,1⟩:=num_old (num_last hl2)
     have g1:((N2++[⟨b,y+i,1⟩])++[⟨b,y+(a+o2),1⟩]:Nums)[2]?=some ⟨b,y+(a+o2),1⟩:=num_last (by simp [hl2])
     refine X.goP ([(57,.own 2 0),(61,.own 1 0),(63,.own 1 0),(64,.own 2 0)]) T116_ok 400 _ rfl Tryz.results116 (fun pr fin hpr hfin=>?_)
     conv=>cbv
     refine ⟨hpr _ (ValOk.row (z:=a+o2) rfl rfl (fun _=>by first | rfl | (simp (disch:=omega) only [SB.den,SI.den,wrapN]<;>omega)) Tryz.underlying30 Tryz.sizeOf5 (by omega) hp g1 rfl (by simp)),hpr _ (ValOk.row (z:=i) rfl rfl (fun _=>by first | rfl | (simp (disch:=omega) only [SB.den,SI.den,wrapN]<;>omega)) Tryz.underlying30 Tryz.sizeOf5 (by omega) hp g0 rfl (by simp)),hpr _ (ValOk.row (z:=i) rfl rfl (fun _=>by first | rfl | (simp (disch:=omega) only [SB.den,SI.den,wrapN]<;>omega)) Tryz.underlying30 Tryz.sizeOf5 (by omega) hp g0 rfl (by simp)),hpr _ (ValOk.row (z:=a+o2) rfl rfl (fun _=>by first | rfl | (simp (disch:=omega) only [SB.den,SI.den,wrapN]<;>omega)) Tryz.underlying30 Tryz.sizeOf5 (by omega) hp g1 rfl (by simp)),hfin _ _ ?_⟩
     refine X.give2 (i:=i) (j:=a+o2) (r:=1) sd1 hij (by omega) (by omega) hxi hxj rfl rfl g0 g1 ?_
     refine X.back (fun N ac w' hN hf hS=>hq ⟨((i+1,r'),swp d1 i (a+o2)),by rw [swpZ_size];exact sd1,by simp only;omega,permIn_trans _ _ _ a e hP1 hps⟩ ac w' (by simp only;omega) ?_)
     show At (aE Tryz.prog Tryz.f116 _ w b y n (wm w) (swp d1 i (a+o2)) [] B116) ⟨[(0,.val (.slv p n c)),(1,.val (.int .i64 (.nat a))),(6,.val (.int .i64 (.nat l))),(7,.val (.own 0 0)),(8,.val (.int .u64 (.nat M))),(9,.val (.int .i64 (.nat (i+1))))],[⟨true,[.int .u64 (.nat r')],none⟩]⟩ ac w'
     exact At.again hf hS (by repeat first | exact trivial | refine ⟨⟨_,rfl,.inl ⟨rfl,rfl⟩⟩,?_⟩ | refine ⟨⟨_,rfl,.inr ⟨_,rfl,rfl⟩⟩,?_⟩ | refine ⟨⟨_,rfl,.inr ⟨_,rfl,(by first | (simp (disch:=omega) only [SV.den,SI.den,wrapN,Option.some.injEq,Value.int.injEq,true_and];done) | (simp (disch:=omega) only [SV.den,SI.den,wrapN,Option.some.injEq,Value.int.injEq,true_and];omega))⟩⟩,?_⟩) (by repeat first | exact trivial | refine ⟨fun h=>h,SubC.refl rfl,rfl,?_⟩)
   ·simp (disch:=omega) only [SB.F,SI.den,wrapM,show (M:Int)-1=((M-1:Nat):Int) by omega,ho2,wrapN] at hol
    obtain ⟨xi,hxi⟩:∃ x,d1[i]! = x:=⟨_,rfl⟩
    obtain ⟨xj,hxj⟩:∃ x,d1[a+o]! = x:=⟨_,rfl⟩
    have hps:PermIn a e d1 (swp d1 i (a+o)):=swp_permIn d1 a e i (a+o) (by omega) (by omega) (by omega) (by omega) (by omega)
    by_cases hij:i=a+o
    ·refine X.take1 hA hn sd1 (i:=i) (by omega) hxi (by simp) (fun N2 hN2 hl2=>?_)
     have g0:(N2++[⟨b,y+i,1⟩]:Nums)[1]?=some ⟨b,y+i,1⟩:=num_last hl2
     refine X.goP ([(57,.own 1 0),(61,.own 1 0),(63,.own 1 0),(64,.own 1 0)]) T116_ok 400 _ rfl Tryz.results116 (fun pr fin hpr hfin=>?_)
     conv=>cbv
     refine ⟨hpr _ (ValOk.row (z:=i) rfl rfl (fun _=>by first | rfl | (simp (disch:=omega) only [SB.den,SI.den,wrapN]<;>omega)) Tryz.underlying30 Tryz.sizeOf5 (by omega) hp g0 rfl (by simp)),hpr _ (ValOk.row (z:=i) rfl rfl (fun _=>by first | rfl | (simp (disch:=omega) only [SB.den,SI.den,wrapN]<;>omega)) Tryz.underlying30 Tryz.sizeOf5 (by omega) hp g0 rfl (by simp)),hpr _ (ValOk.row (z:=i) rfl rfl (fun _=>by first | rfl | (simp (disch:=omega) only [SB.den,SI.den,wrapN]<;>omega)) Tryz.underlying30 Tryz.sizeOf5 (by omega) hp g0 rfl (by simp)),hpr _ (ValOk.row (z:=i) rfl rfl (fun _=>by first | rfl | (simp (disch:=omega) only [SB.den,SI.den,wrapN]<;>omega)) Tryz.underlying30 Tryz.sizeOf5 (by omega) hp g0 rfl (by simp)),hfin _ _ ?_⟩
     refine X.give1 (i:=i) (r:=1) sd1 (by omega) hxi rfl g0 ?_
     refine X.back (fun N ac w' hN hf hS=>hq ⟨((i+1,r'),swp d1 i (a+o)),by rw [swpZ_size];exact sd1,by simp only;omega,permIn_trans _ _ _ a e hP1 hps⟩ ac w' (by simp only;omega) ?_)
     show At (aE Tryz.prog Tryz.f116 _ w b y n (wm w) (swp d1 i (a+o)) [] B116) ⟨[(0,.val (.slv p n c)),(1,.val (.int .i64 (.nat a))),(6,.val (.int .i64 (.nat l))),(7,.val (.own 0 0)),(8,.val (.int .u64 (.nat M))),(9,.val (.int .i64 (.nat (i+1))))],[⟨true,[.int .u64 (.nat r')],none⟩]⟩ ac w'
     rw [←hij,swpZ_self (by omega)]
     exact At.again hf hS (by repeat first | exact trivial | refine ⟨⟨_,rfl,.inl ⟨rfl,rfl⟩⟩,?_⟩ | refine ⟨⟨_,rfl,.inr ⟨_,rfl,rfl⟩⟩,?_⟩ | refine ⟨⟨_,rfl,.inr ⟨_,rfl,(by first | (simp (disch:=omega) only [SV.den,SI.den,wrapN,Option.some.injEq,Value.int.injEq,true_and];done) | (simp (disch:=omega) only [SV.den,SI.den,wrapN,Option.some.injEq,Value.int.injEq,true_and];omega))⟩⟩,?_⟩) (by repeat first | exact trivial | refine ⟨fun h=>h,SubC.refl rfl,rfl,?_⟩)
    ·refine X.take2 hA hn sd1 (i:=i) (j:=a+o) hij (by omega) (by omega) hxi hxj (by simp) (fun N2 hN2 hl2=>?_)
     have g0:((N2++[⟨b,y+i,1⟩])++[⟨b,y+(a+o),1⟩]:Nums)[1]?=some ⟨b,y+i,1⟩:=num_old (num_last hl2)
     have g1:((N2++[⟨b,y+i,1⟩])++[⟨b,y+(a+o),1⟩]:Nums)[2]?=some ⟨b,y+(a+o),1⟩:=num_last (by simp [hl2])
     refine X.goP ([(57,.own 2 0),(61,.own 1 0),(63,.own 1 0),(64,.own 2 0)]) T116_ok 400 _ rfl Tryz.results116 (fun pr fin hpr hfin=>?_)
     conv=>cbv
     refine ⟨hpr _ (ValOk.row (z:=a+o) rfl rfl (fun _=>by first | rfl | (simp (disch:=omega) only [SB.den,SI.den,wrapN]<;>omega)) Tryz.underlying30 Tryz.sizeOf5 (by omega) hp g1 rfl (by simp)),hpr _ (ValOk.row (z:=i) rfl rfl (fun _=>by first | rfl | (simp (disch:=omega) only [SB.den,SI.den,wrapN]<;>omega)) Tryz.underlying30 Tryz.sizeOf5 (by omega) hp g0 rfl (by simp)),hpr _ (ValOk.row (z:=i) rfl rfl (fun _=>by first | rfl | (simp (disch:=omega) only [SB.den,SI.den,wrapN]<;>omega)) Tryz.underlying30 Tryz.sizeOf5 (by omega) hp g0 rfl (by simp)),hpr _ (ValOk.row (z:=a+o) rfl rfl (fun _=>by first | rfl | (simp (disch:=omega) only [SB.den,SI.den,wrapN]<;>omega)) Tryz.underlying30 Tryz.sizeOf5 (by omega) hp g1 rfl (by simp)),hfin _ _ ?_⟩
     refine X.give2 (i:=i) (j:=a+o) (r:=1) sd1 hij (by omega) (by omega) hxi hxj rfl rfl g0 g1 ?_
     refine X.back (fun N ac w' hN hf hS=>hq ⟨((i+1,r'),swp d1 i (a+o)),by rw [swpZ_size];exact sd1,by simp only;omega,permIn_trans _ _ _ a e hP1 hps⟩ ac w' (by simp only;omega) ?_)
     show At (aE Tryz.prog Tryz.f116 _ w b y n (wm w) (swp d1 i (a+o)) [] B116) ⟨[(0,.val (.slv p n c)),(1,.val (.int .i64 (.nat a))),(6,.val (.int .i64 (.nat l))),(7,.val (.own 0 0)),(8,.val (.int .u64 (.nat M))),(9,.val (.int .i64 (.nat (i+1))))],[⟨true,[.int .u64 (.nat r')],none⟩]⟩ ac w'
     exact At.again hf hS (by repeat first | exact trivial | refine ⟨⟨_,rfl,.inl ⟨rfl,rfl⟩⟩,?_⟩ | refine ⟨⟨_,rfl,.inr ⟨_,rfl,rfl⟩⟩,?_⟩ | refine ⟨⟨_,rfl,.inr ⟨_,rfl,(by first | (simp (disch:=omega) only [SV.den,SI.den,wrapN,Option.some.injEq,Value.int.injEq,true_and];done) | (simp (disch:=omega) only [SV.den,SI.den,wrapN,Option.some.injEq,Value.int.injEq,true_and];omega))⟩⟩,?_⟩) (by repeat first | exact trivial | refine ⟨fun h=>h,SubC.refl rfl,rfl,?_⟩)
  ·refine X.go T116_ok 400 _ rfl Tryz.results116 ?_
   conv=>arg 2;cbv
   refine X.over T116_ok rfl (fun N w' v hN hS hv=>⟨d1,hP1,?_,?_⟩)
   ·simp only [resV,SV.den,SV.denL,Option.some.injEq] at hv
    rw [←hv]
   ·exact Sat.arr hS hA hn sd1
 ·refine X.go T116_ok 400 _ rfl Tryz.results116 ?_
  conv=>arg 2;cbv
  refine X.over T116_ok rfl (fun N w' v hN hS hv=>⟨d,permIn_refl d a e,?_,?_⟩)
  ·simp only [resV,SV.den,SV.denL,Option.some.injEq] at hv
   rw [←hv]
  ·exact Sat.arr hS hA hn hn
theorem swoI:SWO ltInt where
 irrefl x:=by simp [ltInt]
 trans x y z h1 h2:=by simp [ltInt] at *;omega
 ntrans x y z h1 h2:=by simp [ltInt] at *;omega
theorem X.anyB {E:Ctx} {k:List It} {s:St} (t:Nat) {c:SB} (hl:Eng.look s.fr t=FV.val (SV.bool c)) (h:∀ x:Bool,X E k ⟨(t,.val (.bool (.v x)))::s.fr,s.rg⟩):X E k s :=
 X.reval t (.bool (.v c.den)) hl (fun N _ x hx=>hx) (h _)
def SortedPost (b y n a e:Nat) (d:Array Int) (w:World):Ending→World→Prop:=fun en w'=>∃ d',(PermIn a e d d'∧SortedIn ltInt a e d')∧PostA b y n w d' en w'
structure PG (n a e lim:Nat) (d:Array Int) (a1 e1 l1:Nat) (d1:Array Int):Prop where
 sz:d1.size=n
 lo:a≤a1
 mid:a1≤e1
 hi:e1≤e
 lim:l1≤lim
 below:Below ltInt a1 e1 d1
 ends:∀ R,PermIn a1 e1 d1 R→SortedIn ltInt a1 e1 R→PermIn a e d R∧SortedIn ltInt a e R
theorem PG.perm {n a e lim:Nat} {d:Array Int} {a1 e1 l1 l2:Nat} {d1 d2:Array Int} (g:PG n a e lim d a1 e1 l1 d1) (hen:e≤n) (h:PermIn a1 e1 d1 d2) (hl:l2≤l1):PG n a e lim d a1 e1 l2 d2 :=
 ⟨h.1.trans g.sz,g.lo,g.mid,g.hi,Nat.le_trans hl g.lim,g.below.perm (by have:=g.hi;have:=g.sz;omega) h,fun R hR hs=>g.ends R (permIn_trans _ _ _ _ _ h hR) hs⟩
theorem pdq8_step (b y n c m:Nat) (hbig:n<2305843009213693952) (ih:∀ (a e lim:Nat) (d:Array Int) (w:World),e-a<m→AtA w b y d→d.size=n→a≤e→e≤n→lim<4611686018427387904→Below ltInt a e d→Calls Tryz.prog 107 #[.slice (some ⟨b,y,none⟩) n c,.int .i64 a,.int .i64 e,.int .i64 lim] w (SortedPost b y n a e d w))
  (a e lim:Nat) (d:Array Int) (w:World) (hm:e-a≤m) (hA:AtA w b y d) (hn:d.size=n) (hae:a≤e) (hen:e≤n) (hlim:lim<4611686018427387904) (hB:Below ltInt a e d) :
  Calls Tryz.prog 107 #[.slice (some ⟨b,y,none⟩) n c,.int .i64 a,.int .i64 e,.int .i64 lim] w (SortedPost b y n a e d w):=by
 obtain ⟨p,hp⟩:∃ p,p=some (Addr.mk b y none):=⟨_,rfl⟩
 rw [←hp] at ih ⊢
 refine X.beginA hA hn (ss:=[.slv p n c,.int .i64 (.nat a),.int .i64 (.nat e),.int .i64 (.nat lim)]) Tryz.func107 rfl B107_ok rfl rfl ?_
 refine X.go T107_ok 400 _ rfl Tryz.results107 ?_
 conv=>arg 2;cbv
 refine X.loop (fun g:{g:((Nat × Nat × Nat) × (Bool × Bool)) × Array Int // PG n a e lim d g.1.1.1 g.1.1.2.1 g.1.1.2.2 g.2}=>aE Tryz.prog Tryz.f107 _ w b y n (wm w) g.1.2 [] B107)
  (fun g=>⟨[(0,.val (.slv p n c)),(1,.val (.int .i64 (.nat g.1.1.1.1))),(2,.val (.int .i64 (.nat g.1.1.1.2.1))),(3,.val (.int .i64 (.nat g.1.1.1.2.2))),(8,.val (.bool (.v g.1.1.2.1))),(9,.val (.bool (.v g.1.1.2.2)))],[]⟩) (fun g=>g.1.1.1.2.1-g.1.1.1.1) (fun _=>⟨rfl,rfl,rfl,rfl⟩)
  (fun N ac w' hN hf hS=>⟨⟨(((a,e,lim),(true,true)),d),⟨hn,Nat.le_refl _,hae,Nat.le_refl _,Nat.le_refl _,hB,fun R h1 h2=>⟨h1,h2⟩⟩⟩,?_⟩) (fun g q hq=>?_)
 ·exact At.again hf hS (by repeat first | exact trivial | refine ⟨⟨_,rfl,.inl ⟨rfl,rfl⟩⟩,?_⟩ | refine ⟨⟨_,rfl,.inr ⟨_,rfl,rfl⟩⟩,?_⟩ | refine ⟨⟨_,rfl,.inr ⟨_,rfl,(by first | (simp (disch:=omega) only [SV.den,SI.den,wrapN,Option.some.injEq,Value.int.injEq,true_and];done) | (simp (disch:=omega) only [SV.den,SI.den,wrapN,Option.some.injEq,Value.int.injEq,true_and];omega))⟩⟩,?_⟩) trivial
 obtain ⟨⟨⟨⟨a1,e1,l1⟩,⟨wb,wp⟩⟩,d1⟩,G⟩:=g
 have G:PG n a e lim d a1 e1 l1 d1:=G
 have glo:=G.lo
 have gmid:=G.mid
 have ghi:=G.hi
 have glim:=G.lim
 have sd1:=G.sz
 show X (aE Tryz.prog Tryz.f107 _ w b y n (wm w) d1 [] B107) _ ⟨[(0,.val (.slv p n c)),(1,.val (.int .i64 (.nat a1))),(2,.val (.int .i64 (.nat e1))),(3,.val (.int .i64 (.nat l1))),(8,.val (.bool (.v wb))),(9,.val (.bool (.v wp)))],[]⟩
 refine X.go T107_ok 400 _ rfl Tryz.results107 ?_
 conv=>arg 2;cbv
 obtain ⟨l,hl⟩:∃ l,l=e1-a1:=⟨_,rfl⟩
 refine X.reval 10 (.int .i64 (.nat l)) rfl (fun N _ v hv=>by rw [←hv];simp (disch:=omega) only [SV.den,SI.den,wrapN,Int.tdiv_eq_ediv_of_nonneg,Option.some.injEq,Value.int.injEq,true_and]<;>omega) ?_
 refine X.cond rfl (fun h12=>?_) (fun h12=>?_)
 ·refine X.go T107_ok 400 _ rfl Tryz.results107 ?_
  conv=>arg 2;cbv
  refine X.call rfl rfl rfl rfl Tryz.call114 (fun N w1 args hN hS ha=>?_)
  have ha:args=[.slice p n c,.int .i64 a1,.int .i64 e1]:=(Option.some.inj ha).symm
  rw [ha]
  obtain ⟨h1,h2⟩:=insertionSort_holds swoI d1 a1 e1 gmid (by omega)
  have key:=ins8_ok b y n c a1 e1 d1 w1 (Sat.arr hS hA hn sd1).1 sd1 (by omega) (by omega) (by omega)
  rw [←hp] at key
  refine Calls.mono key fun en w' ⟨he,hA',hc'⟩=>⟨_,he,Goes.arr hN hS sd1 (h1.1.trans sd1) hA' hc' (by simp) (r:=.tup []) rfl rfl ?_⟩
  refine X.go T107_ok 400 _ rfl Tryz.results107 ?_
  conv=>arg 2;cbv
  refine X.done T107_ok rfl (fun N w' v hN hS hv=>⟨_,G.ends _ h1 h2,?_,?_⟩)
  ·simp only [resV,SV.den,SV.denL,Option.some.injEq] at hv
   rw [←hv]
  ·exact Sat.arr hS hA hn (h1.1.trans sd1)
 simp (disch:=omega) only [SB.F,SI.den,wrapN] at h12
 refine X.go T107_ok 400 _ rfl Tryz.results107 ?_
 conv=>arg 2;cbv
 refine X.cond rfl (fun h0=>?_) (fun h0=>?_)
 ·refine X.go T107_ok 400 _ rfl Tryz.results107 ?_
  conv=>arg 2;cbv
  refine X.call rfl rfl rfl rfl Tryz.call115 (fun N w1 args hN hS ha=>?_)
  have ha:args=[.slice p n c,.int .i64 a1,.int .i64 e1]:=(Option.some.inj ha).symm
  rw [ha]
  obtain ⟨h1,h2⟩:=heapSort_holds swoI d1 a1 e1 gmid (by omega)
  have key:=heap8_ok b y n c a1 e1 d1 w1 (Sat.arr hS hA hn sd1).1 sd1 (by omega) (by omega) (by omega)
  rw [←hp] at key
  refine Calls.mono key fun en w' ⟨he,hA',hc'⟩=>⟨_,he,Goes.arr hN hS sd1 (h1.1.trans sd1) hA' hc' (by simp) (r:=.tup []) rfl rfl ?_⟩
  refine X.go T107_ok 400 _ rfl Tryz.results107 ?_
  conv=>arg 2;cbv
  refine X.done T107_ok rfl (fun N w' v hN hS hv=>⟨_,G.ends _ h1 h2,?_,?_⟩)
  ·simp only [resV,SV.den,SV.denL,Option.some.injEq] at hv
   rw [←hv]
  ·exact Sat.arr hS hA hn (h1.1.trans sd1)
 simp only [SB.F,SI.den] at h0
 refine X.go T107_ok 2 _ rfl Tryz.results107 ?_
 conv=>arg 2;cbv
 refine X.join (ι:={x:Array Int × Nat // PG n a e lim d a1 e1 x.2 x.1}) (fun x=>aE Tryz.prog Tryz.f107 _ w b y n (wm w) x.1.1 [] B107) (fun x=>⟨[(0,.val (.slv p n c)),(1,.val (.int .i64 (.nat a1))),(2,.val (.int .i64 (.nat e1))),(3,.val (.int .i64 (.nat x.1.2))),(8,.val (.bool (.v wb))),(9,.val (.bool (.v wp))),(10,.val (.int .i64 (.nat l)))],[]⟩) (fun _=>⟨rfl,rfl,rfl⟩) (fun qj hqj=>?_) (fun x=>?_)
 ·refine X.go T107_ok 400 _ rfl Tryz.results107 ?_
  conv=>arg 2;cbv
  refine X.cond rfl (fun hb=>?_) (fun hb=>?_)
  ·refine X.go T107_ok 400 _ rfl Tryz.results107 ?_
   conv=>arg 2;cbv
   refine X.call rfl rfl rfl rfl Tryz.call116 (fun N w1 args hN hS ha=>?_)
   have ha:args=[.slice p n c,.int .i64 a1,.int .i64 e1]:=(Option.some.inj ha).symm
   rw [ha]
   have key:=brk8_ok b y n c a1 e1 d1 w1 (Sat.arr hS hA hn sd1).1 sd1 (by omega) (by omega) hbig
   rw [←hp] at key
   refine Calls.mono key fun en w' ⟨d2,h1,he,hA',hc'⟩=>⟨_,he,Goes.arr hN hS sd1 (h1.1.trans sd1) hA' hc' (by simp) (r:=.tup []) rfl rfl ?_⟩
   refine X.go T107_ok 400 _ rfl Tryz.results107 ?_
   conv=>arg 2;cbv
   refine X.back (fun N ac w' hN hf hS=>hqj ⟨(d2,l1-1),G.perm hen h1 (by omega)⟩ ac w' ?_)
   exact At.again hf hS (by repeat first | exact trivial | refine ⟨⟨_,rfl,.inl ⟨rfl,rfl⟩⟩,?_⟩ | refine ⟨⟨_,rfl,.inr ⟨_,rfl,rfl⟩⟩,?_⟩ | refine ⟨⟨_,rfl,.inr ⟨_,rfl,(by first | (simp (disch:=omega) only [SV.den,SI.den,wrapN,Option.some.injEq,Value.int.injEq,true_and];done) | (simp (disch:=omega) only [SV.den,SI.den,wrapN,Option.some.injEq,Value.int.injEq,true_and];omega))⟩⟩,?_⟩) trivial
  ·refine X.go T107_ok 400 _ rfl Tryz.results107 ?_
   conv=>arg 2;cbv
   refine X.back (fun N ac w' hN hf hS=>hqj ⟨(d1,l1),G⟩ ac w' ?_)
   exact At.again hf hS (by repeat first | exact trivial | refine ⟨⟨_,rfl,.inl ⟨rfl,rfl⟩⟩,?_⟩ | refine ⟨⟨_,rfl,.inr ⟨_,rfl,rfl⟩⟩,?_⟩ | refine ⟨⟨_,rfl,.inr ⟨_,rfl,(by first | (simp (disch:=omega) only [SV.den,SI.den,wrapN,Option.some.injEq,Value.int.injEq,true_and];done) | (simp (disch:=omega) only [SV.den,SI.den,wrapN,Option.some.injEq,Value.int.injEq,true_and];omega))⟩⟩,?_⟩) trivial
 clear G sd1 glim
 obtain ⟨⟨d2,l2⟩,G⟩:=x
 have G:PG n a e lim d a1 e1 l2 d2:=G
 have glim:=G.lim
 have sd2:=G.sz
 show X (aE Tryz.prog Tryz.f107 _ w b y n (wm w) d2 [] B107) _ ⟨[(0,.val (.slv p n c)),(1,.val (.int .i64 (.nat a1))),(2,.val (.int .i64 (.nat e1))),(3,.val (.int .i64 (.nat l2))),(8,.val (.bool (.v wb))),(9,.val (.bool (.v wp))),(10,.val (.int .i64 (.nat l)))],[]⟩
 refine X.go T107_ok 1 _ rfl Tryz.results107 ?_
 conv=>arg 2;cbv
 obtain ⟨pv,hpv⟩:∃ x,x=(choosePivot ltInt d2 a1 e1).1:=⟨_,rfl⟩
 obtain ⟨hz,hhz⟩:∃ x,x=hintZ (choosePivot ltInt d2 a1 e1).2:=⟨_,rfl⟩
 have hpr1:a1≤pv∧pv<e1:=by rw [hpv];exact choosePivot_holds ltInt d2 a1 e1 (by omega)
 refine X.join (ι:=Unit) (fun x=>aE Tryz.prog Tryz.f107 _ w b y n (wm w) d2 [] B107) (fun x=>⟨[(0,.val (.slv p n c)),(1,.val (.int .i64 (.nat a1))),(2,.val (.int .i64 (.nat e1))),(3,.val (.int .i64 (.nat l2))),(8,.val (.bool (.v wb))),(9,.val (.bool (.v wp))),(10,.val (.int .i64 (.nat l))),(11,.val (.int .i64 (.nat pv))),(12,.val (.int .i64 (.v (hz))))],[]⟩) (fun _=>⟨rfl,rfl,rfl⟩) (fun qj hqj=>?_) (fun x=>?_)
 ·refine X.go T107_ok 400 _ rfl Tryz.results107 ?_
  conv=>arg 2;cbv
  refine X.call rfl rfl rfl rfl Tryz.call117 (fun N w1 args hN hS ha=>?_)
  have ha:args=[.slice p n c,.int .i64 a1,.int .i64 e1]:=(Option.some.inj ha).symm
  rw [ha]
  have key:=pivot8_ok b y n c a1 e1 d2 w1 (Sat.arr hS hA hn sd2).1 sd2 (by omega) (by omega) (by omega)
  rw [←hp,←hpv,←hhz] at key
  refine Calls.mono key fun en w' ⟨he,hc'⟩=>⟨_,he,Goes.same hN hS hc' (r:=.tup [.int .i64 (.nat pv),.int .i64 (.v hz)]) rfl rfl ?_⟩
  refine X.go T107_ok 400 _ rfl Tryz.results107 ?_
  conv=>arg 2;cbv
  refine X.back (fun N ac w' hN hf hS=>hqj () ac w' ?_)
  exact At.again hf hS (by repeat first | exact trivial | refine ⟨⟨_,rfl,.inl ⟨rfl,rfl⟩⟩,?_⟩ | refine ⟨⟨_,rfl,.inr ⟨_,rfl,rfl⟩⟩,?_⟩ | refine ⟨⟨_,rfl,.inr ⟨_,rfl,(by first | (simp (disch:=omega) only [SV.den,SI.den,wrapN,Option.some.injEq,Value.int.injEq,true_and];done) | (simp (disch:=omega) only [SV.den,SI.den,wrapN,Option.some.injEq,Value.int.injEq,true_and];omega))⟩⟩,?_⟩) trivial
 clear hpv hhz
 refine X.go T107_ok 1 _ rfl Tryz.results107 ?_
 conv=>arg 2;cbv
 refine X.join (ι:={x:(Array Int × Nat) × Int // PG n a e lim d a1 e1 l2 x.1.1∧a1≤x.1.2∧x.1.2<e1}) (fun x=>aE Tryz.prog Tryz.f107 _ w b y n (wm w) x.1.1.1 [] B107) (fun x=>⟨[(0,.val (.slv p n c)),(1,.val (.int .i64 (.nat a1))),(2,.val (.int .i64 (.nat e1))),(3,.val (.int .i64 (.nat l2))),(8,.val (.bool (.v wb))),(9,.val (.bool (.v wp))),(10,.val (.int .i64 (.nat l))),(11,.val (.int .i64 (.nat x.1.1.2))),(12,.val (.int .i64 (.v (x.1.2))))],[]⟩) (fun _=>⟨rfl,rfl,rfl⟩) (fun qj hqj=>?_) (fun x=>?_)
 ·refine X.go T107_ok 400 _ rfl Tryz.results107 ?_
  conv=>arg 2;cbv
  refine X.cond rfl (fun hb=>?_) (fun hb=>?_)
  ·refine X.go T107_ok 400 _ rfl Tryz.results107 ?_
   conv=>arg 2;cbv
   refine X.call rfl rfl rfl rfl Tryz.call118 (fun N w1 args hN hS ha=>?_)
   have ha:args=[.slice p n c,.int .i64 a1,.int .i64 e1]:=(Option.some.inj ha).symm
   rw [ha]
   have h1:=reverseRange_holds d2 a1 e1 gmid (by omega)
   have key:=rev8_ok b y n c a1 e1 d2 w1 (Sat.arr hS hA hn sd2).1 sd2 (by omega) (by omega) (by omega) (by omega)
   rw [←hp] at key
   refine Calls.mono key fun en w' ⟨he,hA',hc'⟩=>⟨_,he,Goes.arr hN hS sd2 (h1.1.trans sd2) hA' hc' (by simp) (r:=.tup []) rfl rfl ?_⟩
   refine X.go T107_ok 400 _ rfl Tryz.results107 ?_
   conv=>arg 2;cbv
   refine X.back (fun N ac w' hN hf hS=>hqj ⟨((reverseRange d2 a1 e1,(e1-1)-(pv-a1)),1),G.perm hen h1 (Nat.le_refl _),by simp only;omega,by simp only;omega⟩ ac w' ?_)
   exact At.again hf hS (by repeat first | exact trivial | refine ⟨⟨_,rfl,.inl ⟨rfl,rfl⟩⟩,?_⟩ | refine ⟨⟨_,rfl,.inr ⟨_,rfl,rfl⟩⟩,?_⟩ | refine ⟨⟨_,rfl,.inr ⟨_,rfl,(by first | (simp (disch:=omega) only [SV.den,SI.den,wrapN,Option.some.injEq,Value.int.injEq,true_and];done) | (simp (disch:=omega) only [SV.den,SI.den,wrapN,Option.some.injEq,Value.int.injEq,true_and];omega))⟩⟩,?_⟩) trivial
  ·refine X.go T107_ok 400 _ rfl Tryz.results107 ?_
   conv=>arg 2;cbv
   refine X.back (fun N ac w' hN hf hS=>hqj ⟨((d2,pv),hz),G,by simp only;omega,by simp only;omega⟩ ac w' ?_)
   exact At.again hf hS (by repeat first | exact trivial | refine ⟨⟨_,rfl,.inl ⟨rfl,rfl⟩⟩,?_⟩ | refine ⟨⟨_,rfl,.inr ⟨_,rfl,rfl⟩⟩,?_⟩ | refine ⟨⟨_,rfl,.inr ⟨_,rfl,(by first | (simp (disch:=omega) only [SV.den,SI.den,wrapN,Option.some.injEq,Value.int.injEq,true_and];done) | (simp (disch:=omega) only [SV.den,SI.den,wrapN,Option.some.injEq,Value.int.injEq,true_and];omega))⟩⟩,?_⟩) trivial
 clear G sd2 hpr1
 obtain ⟨⟨⟨d3,pv3⟩,hz3⟩,G,hp1,hp2⟩:=x
 have G:PG n a e lim d a1 e1 l2 d3:=G
 have hp1:a1≤pv3:=hp1
 have hp2:pv3<e1:=hp2
 have sd3:=G.sz
 show X (aE Tryz.prog Tryz.f107 _ w b y n (wm w) d3 [] B107) _ ⟨[(0,.val (.slv p n c)),(1,.val (.int .i64 (.nat a1))),(2,.val (.int .i64 (.nat e1))),(3,.val (.int .i64 (.nat l2))),(8,.val (.bool (.v wb))),(9,.val (.bool (.v wp))),(10,.val (.int .i64 (.nat l))),(11,.val (.int .i64 (.nat pv3))),(12,.val (.int .i64 (.v (hz3))))],[]⟩
 refine X.go T107_ok 1 _ rfl Tryz.results107 ?_
 conv=>arg 2;cbv
 refine X.join (ι:={x:Array Int // PG n a e lim d a1 e1 l2 x}) (fun x=>aE Tryz.prog Tryz.f107 _ w b y n (wm w) x.1 [] B107) (fun x=>⟨[(0,.val (.slv p n c)),(1,.val (.int .i64 (.nat a1))),(2,.val (.int .i64 (.nat e1))),(3,.val (.int .i64 (.nat l2))),(8,.val (.bool (.v wb))),(9,.val (.bool (.v wp))),(10,.val (.int .i64 (.nat l))),(11,.val (.int .i64 (.nat pv3)))],[]⟩) (fun _=>⟨rfl,rfl,rfl⟩) (fun qj hqj=>?_) (fun x=>?_)
 ·refine X.go T107_ok 400 _ rfl Tryz.results107 ?_
  conv=>arg 2;cbv
  refine X.cond rfl (fun hb=>?_) (fun hb=>?_)
  ·refine X.go T107_ok 400 _ rfl Tryz.results107 ?_
   conv=>arg 2;cbv
   refine X.call rfl rfl rfl rfl Tryz.call119 (fun N w1 args hN hS ha=>?_)
   have ha:args=[.slice p n c,.int .i64 a1,.int .i64 e1]:=(Option.some.inj ha).symm
   rw [ha]
   obtain ⟨h1,h2⟩:=partialInsertionSort_holds swoI d3 a1 e1 (by omega) (by omega) G.below
   have key:=partIns8_ok b y n c a1 e1 d3 w1 (Sat.arr hS hA hn sd3).1 sd3 (by omega) (by omega) (by omega)
   rw [←hp] at key
   obtain ⟨R,hR⟩:∃ R,R=partialInsertionSort ltInt d3 a1 e1:=⟨_,rfl⟩
   rw [←hR] at h1 h2 key
   clear hR
   obtain ⟨d4,dn⟩:=R
   simp only at h1 h2 key
   refine Calls.mono key fun en w' ⟨he,hA',hc'⟩=>⟨_,he,Goes.arr hN hS sd3 (h1.1.trans sd3) hA' hc' (by simp) (r:=.bool (.v dn)) rfl rfl ?_⟩
   refine X.go T107_ok 400 _ rfl Tryz.results107 ?_
   conv=>arg 2;cbv
   refine X.cond rfl (fun hd=>?_) (fun hd=>?_)
   ·simp only [SB.T] at hd
    refine X.go T107_ok 400 _ rfl Tryz.results107 ?_
    conv=>arg 2;cbv
    refine X.done T107_ok rfl (fun N w' v hN hS hv=>⟨_,G.ends _ h1 (h2 hd),?_,?_⟩)
    ·simp only [resV,SV.den,SV.denL,Option.some.injEq] at hv
     rw [←hv]
    ·exact Sat.arr hS hA hn (h1.1.trans sd3)
   ·refine X.go T107_ok 400 _ rfl Tryz.results107 ?_
    conv=>arg 2;cbv
    refine X.back (fun N ac w' hN hf hS=>hqj ⟨d4,G.perm hen h1 (Nat.le_refl _)⟩ ac w' ?_)
    exact At.again hf hS (by repeat first | exact trivial | refine ⟨⟨_,rfl,.inl ⟨rfl,rfl⟩⟩,?_⟩ | refine ⟨⟨_,rfl,.inr ⟨_,rfl,rfl⟩⟩,?_⟩ | refine ⟨⟨_,rfl,.inr ⟨_,rfl,(by first | (simp (disch:=omega) only [SV.den,SI.den,wrapN,Option.some.injEq,Value.int.injEq,true_and];done) | (simp (disch:=omega) only [SV.den,SI.den,wrapN,Option.some.injEq,Value.int.injEq,true_and];omega))⟩⟩,?_⟩) trivial
  ·refine X.go T107_ok 400 _ rfl Tryz.results107 ?_
   conv=>arg 2;cbv
   refine X.back (fun N ac w' hN hf hS=>hqj ⟨d3,G⟩ ac w' ?_)
   exact At.again hf hS (by repeat first | exact trivial | refine ⟨⟨_,rfl,.inl ⟨rfl,rfl⟩⟩,?_⟩ | refine ⟨⟨_,rfl,.inr ⟨_,rfl,rfl⟩⟩,?_⟩ | refine ⟨⟨_,rfl,.inr ⟨_,rfl,(by first | (simp (disch:=omega) only [SV.den,SI.den,wrapN,Option.some.injEq,Value.int.injEq,true_and];done) | (simp (disch:=omega) only [SV.den,SI.den,wrapN,Option.some.injEq,Value.int.injEq,true_and];omega))⟩⟩,?_⟩) trivial
 clear G sd3
 obtain ⟨d4,G⟩:=x
 have sd4:=G.sz
 show X (aE Tryz.prog Tryz.f107 _ w b y n (wm w) d4 [] B107) _ ⟨[(0,.val (.slv p n c)),(1,.val (.int .i64 (.nat a1))),(2,.val (.int .i64 (.nat e1))),(3,.val (.int .i64 (.nat l2))),(8,.val (.bool (.v wb))),(9,.val (.bool (.v wp))),(10,.val (.int .i64 (.nat l))),(11,.val (.int .i64 (.nat pv3)))],[]⟩
 obtain ⟨m1,hm1⟩:∃ m,m=a1-1:=⟨_,rfl⟩
 obtain ⟨x1,hx1⟩:∃ x,d4[m1]! = x:=⟨_,rfl⟩
 obtain ⟨x2,hx2⟩:∃ x,d4[pv3]! = x:=⟨_,rfl⟩
 obtain ⟨t,ht⟩:∃ t,t=ltInt x1 x2:=⟨_,rfl⟩
 obtain ⟨o1,ho1⟩:∃ o,o=y+m1:=⟨_,rfl⟩
 obtain ⟨o2,ho2⟩:∃ o,o=y+pv3:=⟨_,rfl⟩
 refine X.goP ([(79,.ext b o1 0),(80,.int .u8 (.v x1)),(83,.ext b o2 0),(84,.int .u8 (.v x2)),(85,.bool (.v t))]) T107_ok 400 _ rfl Tryz.results107 (fun pr fin hpr hfin=>?_)
 conv=>cbv
 refine ⟨hpr _ (less_call rfl ht),hpr _ (ValOk.im1 rfl Tryz.isAgg5 (fun _=>rfl) fun hT=>(by have hT:_=true:=hT;simp [SB.den,SI.den] at hT;(try replace hT:=of_decide_eq_true hT);(try simp (disch:=omega) only [SI.den,wrapN] at hT);rw [←hx2,ho2];exact arrM_in (by omega))),hpr _ (ValOk.im1 rfl Tryz.isAgg5 (fun _=>rfl) fun hT=>(by have hT:_=true:=hT;simp [SB.den,SI.den] at hT;(try replace hT:=of_decide_eq_true hT);(try simp (disch:=omega) only [SI.den,wrapN] at hT);rw [←hx1,ho1];exact arrM_in (by omega))),hpr _ (ValOk.at (z:=pv3) rfl rfl (fun hT=>by have hT:_=true:=hT;simp [SB.den,SI.den] at hT;(try replace hT:=of_decide_eq_true hT);(try simp (disch:=omega) only [SI.den,wrapN] at hT);first | omega | (simp (disch:=omega) only [SI.den,wrapN]<;>omega)) Tryz.underlying30 Tryz.sizeOf5 (fun hT=>by have hT:_=true:=hT;simp [SB.den,SI.den] at hT;(try replace hT:=of_decide_eq_true hT);(try simp (disch:=omega) only [SI.den,wrapN] at hT);first | omega | (simp (disch:=omega) only [SI.den,wrapN]<;>omega)) hp (by omega)),hpr _ (ValOk.at (z:=m1) rfl rfl (fun hT=>by have hT:_=true:=hT;simp [SB.den,SI.den] at hT;(try replace hT:=of_decide_eq_true hT);(try simp (disch:=omega) only [SI.den,wrapN] at hT);first | omega | (simp (disch:=omega) only [SI.den,wrapN]<;>omega)) Tryz.underlying30 Tryz.sizeOf5 (fun hT=>by have hT:_=true:=hT;simp [SB.den,SI.den] at hT;(try replace hT:=of_decide_eq_true hT);(try simp (disch:=omega) only [SI.den,wrapN] at hT);first | omega | (simp (disch:=omega) only [SI.den,wrapN]<;>omega)) hp (by omega)),hfin _ _ ?_⟩
 refine X.cond rfl (fun hc=>?_) (fun hc=>?_)
 ·simp only [SB.T,SB.F,SI.den] at hc
  obtain ⟨hc1,hc2⟩:=hc
  refine X.go T107_ok 400 _ rfl Tryz.results107 ?_
  conv=>arg 2;cbv
  refine X.call rfl rfl rfl rfl Tryz.call121 (fun N w1 args hN hS ha=>?_)
  have ha:args=[.slice p n c,.int .i64 a1,.int .i64 e1,.int .i64 pv3]:=(Option.some.inj ha).symm
  rw [ha]
  have key:=partEq8_ok b y n c a1 e1 pv3 d4 w1 (Sat.arr hS hA hn sd4).1 sd4 hp1 hp2 (by omega) (by omega)
  rw [←hp] at key
  obtain ⟨R,hR⟩:∃ R,R=partitionEqual ltInt d4 a1 e1 pv3:=⟨_,rfl⟩
  rw [←hR] at key
  obtain ⟨mid,d5⟩:=R
  obtain ⟨r1,r2,r3,r4,r5⟩:=round_eq swoI (partitionEqual_holds ltInt) (by omega) hp1 hp2 (by omega) G.below (by rw [←hm1,hx1,hx2,←ht,hc2]) hR.symm
  refine Calls.mono key fun en w' ⟨he,hA',hc'⟩=>⟨_,he,Goes.arr hN hS sd4 (r3.trans sd4) hA' hc' (by simp) (r:=.int .i64 (.nat mid)) rfl rfl ?_⟩
  refine X.go T107_ok 400 _ rfl Tryz.results107 ?_
  conv=>arg 2;cbv
  refine X.back (fun N ac w' hN hf hS=>hq ⟨(((mid,e1,l2),(wb,wp)),d5),⟨r3.trans sd4,by simp only;omega,r2,ghi,glim,r4,fun R h1 h2=>G.ends R (r5 R h1 h2).1 (r5 R h1 h2).2⟩⟩ ac w' (by simp only;omega) ?_)
  exact At.again hf hS (by repeat first | exact trivial | refine ⟨⟨_,rfl,.inl ⟨rfl,rfl⟩⟩,?_⟩ | refine ⟨⟨_,rfl,.inr ⟨_,rfl,rfl⟩⟩,?_⟩ | refine ⟨⟨_,rfl,.inr ⟨_,rfl,(by first | (simp (disch:=omega) only [SV.den,SI.den,wrapN,Option.some.injEq,Value.int.injEq,true_and];done) | (simp (disch:=omega) only [SV.den,SI.den,wrapN,Option.some.injEq,Value.int.injEq,true_and];omega))⟩⟩,?_⟩) trivial
 ·refine X.go T107_ok 400 _ rfl Tryz.results107 ?_
  conv=>arg 2;cbv
  refine X.call rfl rfl rfl rfl Tryz.call122 (fun N w1 args hN hS ha=>?_)
  have ha:args=[.slice p n c,.int .i64 a1,.int .i64 e1,.int .i64 pv3]:=(Option.some.inj ha).symm
  rw [ha]
  have key:=part8_ok b y n c a1 e1 pv3 d4 w1 (Sat.arr hS hA hn sd4).1 sd4 hp1 hp2 (by omega) (by omega)
  rw [←hp] at key
  obtain ⟨R,hR⟩:∃ R,R=partition ltInt d4 a1 e1 pv3:=⟨_,rfl⟩
  rw [←hR] at key
  obtain ⟨mid,al,d5⟩:=R
  obtain ⟨r1,r2,r3,r4,r5,r6,r7⟩:=round_part swoI (partition_holds ltInt) hp1 hp2 (by omega) G.below hR.symm
  refine Calls.mono key fun en w' ⟨he,hA',hc'⟩=>⟨_,he,Goes.arr hN hS sd4 (r3.trans sd4) hA' hc' (by simp) (r:=.tup [.int .i64 (.nat mid),.bool (.v al)]) rfl rfl ?_⟩
  refine X.go T107_ok 400 _ rfl Tryz.results107 ?_
  conv=>arg 2;cbv
  refine X.cond rfl (fun hlt=>?_) (fun hge=>?_)
  ·refine X.go T107_ok 400 _ rfl Tryz.results107 ?_
   conv=>arg 2;cbv
   refine X.call rfl rfl rfl rfl Tryz.call107 (fun N w1 args hN hS ha=>?_)
   have ha:args=[.slice p n c,.int .i64 a1,.int .i64 mid,.int .i64 l2]:=(Option.some.inj ha).symm
   rw [ha]
   refine Calls.mono (ih a1 mid l2 d5 w1 (by omega) (Sat.arr hS hA hn (r3.trans sd4)).1 (r3.trans sd4) r1 (by omega) (by omega) r4) fun en w' ⟨L,⟨h1,h2⟩,he,hA',hc'⟩=>⟨_,he,Goes.arr hN hS (r3.trans sd4) (h1.1.trans (r3.trans sd4)) hA' hc' (by simp) (r:=.tup []) rfl rfl ?_⟩
   refine X.go T107_ok 400 _ rfl Tryz.results107 ?_
   conv=>arg 2;cbv
   refine X.anyB 8 rfl (fun wb'=>?_)
   obtain ⟨k1,k2⟩:=r6 L h1 h2
   refine X.back (fun N ac w' hN hf hS=>hq ⟨(((mid+1,e1,l2),(wb',al)),L),⟨h1.1.trans (r3.trans sd4),by simp only;omega,by simp only;omega,ghi,glim,k1,fun R h3 h4=>G.ends R (k2 R h3 h4).1 (k2 R h3 h4).2⟩⟩ ac w' (by simp only;omega) ?_)
   exact At.again hf hS (by repeat first | exact trivial | refine ⟨⟨_,rfl,.inl ⟨rfl,rfl⟩⟩,?_⟩ | refine ⟨⟨_,rfl,.inr ⟨_,rfl,rfl⟩⟩,?_⟩ | refine ⟨⟨_,rfl,.inr ⟨_,rfl,(by first | (simp (disch:=omega) only [SV.den,SI.den,wrapN,Option.some.injEq,Value.int.injEq,true_and];done) | (simp (disch:=omega) only [SV.den,SI.den,wrapN,Option.some.injEq,Value.int.injEq,true_and];omega))⟩⟩,?_⟩) trivial
  ·refine X.go T107_ok 400 _ rfl Tryz.results107 ?_
   conv=>arg 2;cbv
   obtain ⟨md1,hmd1⟩:∃ k,k=mid+1:=⟨_,rfl⟩
   refine X.call rfl rfl rfl rfl Tryz.call107 (fun N w1 args hN hS ha=>?_)
   have ha:args=[.slice p n c,.int .i64 (IntKind.i64.wrap ((mid:Int)+1)),.int .i64 e1,.int .i64 l2]:=(Option.some.inj ha).symm
   rw [wrapN _ (by omega) (by omega),show (mid:Int)+1=((mid+1:Nat):Int) by omega] at ha
   rw [ha]
   refine Calls.mono (ih (mid+1) e1 l2 d5 w1 (by omega) (Sat.arr hS hA hn (r3.trans sd4)).1 (r3.trans sd4) (by omega) (by omega) (by omega) r5) fun en w' ⟨L,⟨h1,h2⟩,he,hA',hc'⟩=>⟨_,he,Goes.arr hN hS (r3.trans sd4) (h1.1.trans (r3.trans sd4)) hA' hc' (by simp) (r:=.tup []) rfl rfl ?_⟩
   refine X.go T107_ok 400 _ rfl Tryz.results107 ?_
   conv=>arg 2;cbv
   refine X.anyB 8 rfl (fun wb'=>?_)
   obtain ⟨k1,k2⟩:=r7 L h1 h2
   refine X.back (fun N ac w' hN hf hS=>hq ⟨(((a1,mid,l2),(wb',al)),L),⟨h1.1.trans (r3.trans sd4),glo,r1,by simp only;omega,glim,k1,fun R h3 h4=>G.ends R (k2 R h3 h4).1 (k2 R h3 h4).2⟩⟩ ac w' (by simp only;omega) ?_)
   exact At.again hf hS (by repeat first | exact trivial | refine ⟨⟨_,rfl,.inl ⟨rfl,rfl⟩⟩,?_⟩ | refine ⟨⟨_,rfl,.inr ⟨_,rfl,rfl⟩⟩,?_⟩ | refine ⟨⟨_,rfl,.inr ⟨_,rfl,(by first | (simp (disch:=omega) only [SV.den,SI.den,wrapN,Option.some.injEq,Value.int.injEq,true_and];done) | (simp (disch:=omega) only [SV.den,SI.den,wrapN,Option.some.injEq,Value.int.injEq,true_and];omega))⟩⟩,?_⟩) trivial
theorem pdq8_ok (b y n c:Nat) (hbig:n<2305843009213693952):∀ (m a e lim:Nat) (d:Array Int) (w:World),e-a<m→AtA w b y d→d.size=n→a≤e→e≤n→lim<4611686018427387904→Below ltInt a e d →
  Calls Tryz.prog 107 #[.slice (some ⟨b,y,none⟩) n c,.int .i64 a,.int .i64 e,.int .i64 lim] w (SortedPost b y n a e d w)
 | 0,_,_,_,_,_,h,_,_,_,_,_,_=>absurd h (Nat.not_lt_zero _)
 | m+1,a,e,lim,d,w,h,hA,hn,hae,hen,hl,hB=>pdq8_step b y n c m hbig (fun a e lim d w h=>pdq8_ok b y n c hbig m a e lim d w h) a e lim d w (Nat.le_of_lt_succ h) hA hn hae hen hl hB
theorem len_ok (n:Nat) (hn:n<4611686018427387904) (w:World):Calls Tryz.prog 60 #[.int .u64 n] w fun e w'=>∃ k:Nat,k≤62∧e=.returned (.int .i64 k)∧w'=w:=by
 have h:=Any.bits_Len (SlLaysF0.n15.bits Tryz.lenL) (n:Int) w (by omega) (by omega)
 refine Calls.mono h fun e w' ⟨h1,h2⟩=>⟨_,?_,h1,h2⟩
 rw [Int.toNat_natCast,bitLen_eq _ (by omega)]
 exact (bitsLen_le_iff n 62).2 (by omega)
theorem sort8_ok (b y n c:Nat) (d:Array Int) (w:World) (hA:AtA w b y d) (hn:d.size=n) (hbig:n<2305843009213693952) :
  Calls Tryz.prog 90 #[.slice (some ⟨b,y,none⟩) n c] w (SortedPost b y n 0 n d w):=by
 obtain ⟨p,hp⟩:∃ p,p=some (Addr.mk b y none):=⟨_,rfl⟩
 rw [←hp]
 refine X.beginA hA hn (ss:=[.slv p n c]) Tryz.func90 rfl B90_ok rfl rfl ?_
 refine X.go T90_ok 400 _ rfl Tryz.results90 ?_
 conv=>arg 2;cbv
 refine X.call rfl rfl rfl rfl Tryz.call60 (fun N w1 args hN hS ha=>?_)
 have ha:args=[.int .u64 (IntKind.u64.wrap n)]:=(Option.some.inj ha).symm
 rw [wrapM _ (by omega) (by omega)] at ha
 rw [ha]
 refine Calls.mono (len_ok n (by omega) w1) fun e w' ⟨k,hk,he,hw⟩=>⟨_,he,?_⟩
 subst hw
 refine Goes.same hN hS (Chg.refl _ _) (r:=.int .i64 (.nat k)) rfl rfl ?_
 refine X.go T90_ok 400 _ rfl Tryz.results90 ?_
 conv=>arg 2;cbv
 refine X.call rfl rfl rfl rfl Tryz.call107 (fun N w1 args hN hS ha=>?_)
 have ha:args=[.slice p n c,.int .i64 ((0:Nat):Int),.int .i64 n,.int .i64 k]:=(Option.some.inj ha).symm
 rw [ha]
 have key:=pdq8_ok b y n c hbig (n+1) 0 n k d w1 (by omega) (Sat.arr hS hA hn hn).1 hn (by omega) (Nat.le_refl _) (by omega) (.inl rfl)
 rw [←hp] at key
 refine Calls.mono key fun en w' ⟨L,⟨h1,h2⟩,he,hA',hc'⟩=>⟨_,he,Goes.arr hN hS hn (h1.1.trans hn) hA' hc' (by simp) (r:=.tup []) rfl rfl ?_⟩
 refine X.go T90_ok 400 _ rfl Tryz.results90 ?_
 conv=>arg 2;cbv
 refine X.over T90_ok rfl (fun N w' v hN hS hv=>⟨L,⟨h1,h2⟩,?_,?_⟩)
 ·simp only [resV,SV.den,SV.denL,Option.some.injEq] at hv
  rw [←hv]
 ·exact Sat.arr hS hA hn (h1.1.trans hn)
theorem chg_mapBlock {w:World} {b y n:Nat} {f:Array Value→Array Value} (hs:∀ c,(f c).size=c.size) (ho:∀ c o,¬(y≤o∧o<y+n)→(f c)[o]?=c[o]?):Chg (arrD b y n) w (Go.Sort.mapBlock w b f):=by
 refine ⟨rfl,rfl,rfl,by simp [Go.Sort.mapBlock],Nat.le_refl _,fun k hk hno=>?_,fun k c e fr hc=>?_⟩
 ·show (w.heap.modify b _)[k]?=_
  rw [Array.getElem?_modify]
  by_cases e:b=k
  ·subst e
   rw [if_pos rfl]
   cases hx:w.heap[b]? with
   | none=>rfl
   | some x =>
    cases x with
    | cells c e fr =>
     have:f c=c:=by
      apply Array.ext_getElem?
      intro o
      exact ho c o fun h=>hno o ⟨rfl,h.1,h.2⟩
     simp [Go.Sort.onCells,this]
    | _=>rfl
  ·rw [if_neg e]
 ·by_cases e':b=k
  ·subst e'
   refine ⟨f c,?_,hs c,fun o h=>ho c o fun h2=>h ⟨rfl,h2.1,h2.2⟩⟩
   show (w.heap.modify b _)[b]?=_
   rw [Array.getElem?_modify,if_pos rfl,hc]
   rfl
  ·refine ⟨c,?_,rfl,fun _ _=>rfl⟩
   show (w.heap.modify b _)[k]?=_
   rw [Array.getElem?_modify,if_neg e']
   exact hc
theorem chg_putRow {w:World} (q b y:Nat) (d:Array Int):Chg (arrD b y d.size) w (Go.Sort.putRow (Value.int .u8) (Go.Sort.ahead w q) b y d):=by
 have h:Chg (arrD b y d.size) (Go.Sort.ahead w q) (Go.Sort.putRow (Value.int .u8) (Go.Sort.ahead w q) b y d):=by
  refine chg_mapBlock (fun c=>by simp [Go.Sort.putCells]) (fun c o ho=>?_)
  simp only [Go.Sort.putCells,Array.getElem?_mapIdx]
  cases c[o]? with
  | none=>rfl
  | some x=>simp [ho]
 exact ((Chg.drewN (w:=w) q).mono fun _ _ _ h=>h.elim).trans h (fun _ _ _ h=>h)
theorem compact8_ok (b y n c:Nat) (d:Array Int) (w:World) (hA:AtA w b y d) (hn:d.size=n) (hbig:n<2305843009213693952) (hnc:n≤c) :
  Calls Tryz.prog 103 #[.slice (some ⟨b,y,none⟩) n c] w fun e w'=>e=.returned (.slice (some ⟨b,y,none⟩) (Go.Lib.compactUpTo d n).length c)∧AtA w' b y (Go.Lib.compactUpTo d n).toArray∧Chg (arrD b y n) w w':=by
 have key:=AnyE.slices_Compact Tryz.compactL (Value.int .u8) (fun _=>rfl) (EqlAt.intD _ _ .u8) (NeqAt.intD _ _ .u8) 0 (by exact Tryz.zeroValue5) b y c d w hA (by omega) (by omega)
 subst hn
 refine Calls.mono key fun e w' ⟨h1,q,h2⟩=>⟨h1,?_,?_⟩
 ·have hsz:(Go.Lib.compactUpTo d d.size).length≤d.size:=by
   unfold Go.Lib.compactUpTo
   rw [List.length_map]
   exact Nat.le_trans (List.length_filter_le _ _) (by simp)
  have hh:=Go.Sort.holds_putRow (Value.int .u8) (Go.Sort.ahead w q) b y d (Go.Lib.compactUpTo d d.size++List.replicate (d.size-(Go.Lib.compactUpTo d d.size).length) (0:Int)).toArray hA (by simp;omega)
  rw [h2]
  intro k hk
  have hk:k<(Go.Lib.compactUpTo d d.size).length:=by simpa using hk
  have:=hh k (by simp;omega)
  rw [show ((Go.Lib.compactUpTo d d.size++List.replicate (d.size-(Go.Lib.compactUpTo d d.size).length) (0:Int)).toArray)[k]! = ((Go.Lib.compactUpTo d d.size).toArray)[k]! by
   simp [List.getElem?_append_left hk]] at this
  exact this
 ·have:=chg_putRow (w:=w) q b y (Go.Lib.compactUpTo d d.size++List.replicate (d.size-(Go.Lib.compactUpTo d d.size).length) (0:Int)).toArray
  have hsz:(Go.Lib.compactUpTo d d.size).length≤d.size:=by
   unfold Go.Lib.compactUpTo
   rw [List.length_map]
   exact Nat.le_trans (List.length_filter_le _ _) (by simp)
  rw [h2]
  refine this.mono fun k o _ ⟨e1,e2,e3⟩=>⟨e1,e2,?_⟩
  simp at e3
  omega
end Go.Proofs.YthpbefahaghbjaaGreat
namespace Go.Proofs.YthpbefahaghbjaaGreat
open Go Go.Eng
def xorU (a b:Int):Int:=bitsI .xor .u64 a b
def mulU (a b:Int):Int:=IntKind.u64.wrap (a*b)
def ofZ (l:List Int):Int:=l.foldl (fun h c=>mulU (xorU h (IntKind.u64.wrap c)) 1099511628211) 14695981039346656037
def stirZ (h:Int):Int:=xorU (mulU (xorU h (h.fdiv (2 ^ 32))) 14029467366897019727) ((mulU (xorU h (h.fdiv (2 ^ 32))) 14029467366897019727).fdiv (2 ^ 29))
def placeZ (n v:Int):Int:=stirZ (ofZ [110,n,v])
def keyZ (k:Int):Int:=stirZ (ofZ [107,k])
theorem of110:mulU (xorU 14695981039346656037 (IntKind.u64.wrap 110)) 1099511628211=Int.ofNat 12638194897137039473:=by decide +kernel
theorem of107:mulU (xorU 14695981039346656037 (IntKind.u64.wrap 107)) 1099511628211=Int.ofNat 12638198195671924106:=by decide +kernel
theorem place_ok (n v:Int) (w:World):Calls Tryz.prog 104 #[.int .u8 n,.int .u8 v] w fun e w'=>e=.returned (.int .u64 (placeZ n v))∧Chg (fun _ _=>False) w w':=by
 refine X.begin (rg:=[]) (N:=[]) (ss:=[.int .u8 (.v n),.int .u8 (.v v)]) Tryz.func104 rfl B104_ok rfl rfl Sat.std0 ?_
 refine X.goC FALL_ok true T104_ok 4000 _ rfl Tryz.results104 ?_
 conv=>arg 2;cbv
 refine X.done T104_ok rfl (fun N w' v hN hS hv=>⟨fin_int hv ?_,hS.chg.mono fun k o _ h=>inR_nil h⟩)
 simp only [SI.den]
 unfold placeZ ofZ
 simp only [List.foldl,of110]
 rfl
theorem key_ok (k:Int) (w:World):Calls Tryz.prog 100 #[.int .u8 k] w fun e w'=>e=.returned (.int .u64 (keyZ k))∧Chg (fun _ _=>False) w w':=by
 refine X.begin (rg:=[]) (N:=[]) (ss:=[.int .u8 (.v k)]) Tryz.func100 rfl B100_ok rfl rfl Sat.std0 ?_
 refine X.goC FALL_ok true T100_ok 4000 _ rfl Tryz.results100 ?_
 conv=>arg 2;cbv
 refine X.done T100_ok rfl (fun N w' v hN hS hv=>⟨fin_int hv ?_,hS.chg.mono fun k o _ h=>inR_nil h⟩)
 simp only [SI.den]
 unfold keyZ ofZ
 simp only [List.foldl,of107]
 rfl
end Go.Proofs.YthpbefahaghbjaaGreat
namespace Go.Proofs.YthpbefahaghbjaaGreat
open Go Go.Eng Go.Sort
theorem _root_.Go.Eng.Chg.grown {w w':World} (h:Chg (fun _ _=>False) w w'):∃ q os',w'=Go.Sort.grow (w.drewN q) os':=by
 refine ⟨w'.drawn-w.drawn,w'.heap.extract w.heap.size w'.heap.size,?_⟩
 have hh:w'.heap=w.heap++w'.heap.extract w.heap.size w'.heap.size:=by
  apply Array.ext_getElem?
  intro i
  by_cases hi:i<w.heap.size
  ·rw [Array.getElem?_append_left hi]
   exact h.same i hi (fun _ ho=>ho)
  ·rw [Array.getElem?_append_right (by omega),Array.getElem?_extract]
   split
   ·congr 1;omega
   ·exact Array.getElem?_eq_none (by omega)
 have hd:w.drawn+(w'.drawn-w.drawn)=w'.drawn:=by have:=h.dr;omega
 have h1:=h.os
 have h2:=h.tape
 have h3:=h.output
 cases w
 cases w'
 simp only [Go.Sort.grow,World.drewN] at *
 subst h1 h2 h3
 rw [←hh,hd]
theorem cmp8_ok (x y:Int) (w:World):Calls Tryz.prog 63 #[.int .u8 x,.int .u8 y] w fun e w'=>e=.returned (.int .i64 (Lib.compareInt x y))∧Chg (fun _ _=>False) w w':=by
 refine X.begin (rg:=[]) (N:=[]) (ss:=[.int .u8 (.v x),.int .u8 (.v y)]) Tryz.func63 rfl B63_ok rfl rfl Sat.std0 ?_
 refine X.goP ([(8,.bool (.lit false)),(10,.bool (.lit false))]) T63_ok 400 _ rfl Tryz.results63 (fun pr fin hpr hfin=>?_)
 conv=>cbv
 refine ⟨hpr _ (.of Tryz.call80 [.int .u8 y] (.bool false) (fun _=>rfl) (fun _=>rfl) fun _ w1 _=>nan8_ok y w1),hpr _ (.of Tryz.call80 [.int .u8 x] (.bool false) (fun _=>rfl) (fun _=>rfl) fun _ w1 _=>nan8_ok x w1),hfin _ _ ?_⟩
 refine X.cond rfl (fun hlt=>?_) (fun hge=>?_)
 ·simp only [SB.T,SI.den] at hlt
  have hlt:x<y:=hlt
  refine X.go T63_ok 400 _ rfl Tryz.results63 ?_
  conv=>arg 2;cbv
  refine X.done T63_ok rfl (fun N w' v hN hS hv=>⟨fin_int hv ?_,hS.chg.mono fun k o _ h=>inR_nil h⟩)
  simp [SI.den,Lib.compareInt,hlt]
 ·simp only [SB.F,SI.den] at hge
  have hge:y≤x:=by omega
  refine X.go T63_ok 400 _ rfl Tryz.results63 ?_
  conv=>arg 2;cbv
  refine X.cond rfl (fun hlt=>?_) (fun hge2=>?_)
  ·simp only [SB.T,SI.den] at hlt
   have hlt:y<x:=by omega
   have h2:¬x<y:=by omega
   refine X.go T63_ok 400 _ rfl Tryz.results63 ?_
   conv=>arg 2;cbv
   refine X.done T63_ok rfl (fun N w' v hN hS hv=>⟨fin_int hv ?_,hS.chg.mono fun k o _ h=>inR_nil h⟩)
   simp [SI.den,Lib.compareInt,hlt,h2]
  ·simp only [SB.F,SI.den] at hge2
   have h1:¬y<x:=by omega
   have h2:¬x<y:=by omega
   refine X.go T63_ok 400 _ rfl Tryz.results63 ?_
   conv=>arg 2;cbv
   refine X.done T63_ok rfl (fun N w' v hN hS hv=>⟨fin_int hv ?_,hS.chg.mono fun k o _ h=>inR_nil h⟩)
   simp [SI.den,Lib.compareInt,h1,h2]
theorem nan64_ok (x:Int) (w:World):Calls Tryz.prog 79 #[.int .u64 x] w fun e w'=>e=.returned (.bool false)∧Chg (fun _ _=>False) w w':=by
 refine X.begin (rg:=[]) (N:=[]) (ss:=[.int .u64 (.v x)]) Tryz.func79 rfl B79_ok rfl rfl Sat.std0 ?_
 refine X.go T79_ok 400 _ rfl Tryz.results79 ?_
 conv=>arg 2;cbv
 refine X.done T79_ok rfl (fun N w' v hN hS hv=>⟨fin_bool hv ?_,hS.chg.mono fun k o _ h=>inR_nil h⟩)
 simp [SB.den,SI.den]
theorem cmp64_ok (x y:Int) (w:World):Calls Tryz.prog 62 #[.int .u64 x,.int .u64 y] w fun e w'=>e=.returned (.int .i64 (Lib.compareInt x y))∧Chg (fun _ _=>False) w w':=by
 refine X.begin (rg:=[]) (N:=[]) (ss:=[.int .u64 (.v x),.int .u64 (.v y)]) Tryz.func62 rfl B62_ok rfl rfl Sat.std0 ?_
 refine X.goP ([(8,.bool (.lit false)),(10,.bool (.lit false))]) T62_ok 400 _ rfl Tryz.results62 (fun pr fin hpr hfin=>?_)
 conv=>cbv
 refine ⟨hpr _ (.of Tryz.call79 [.int .u64 y] (.bool false) (fun _=>rfl) (fun _=>rfl) fun _ w1 _=>nan64_ok y w1),hpr _ (.of Tryz.call79 [.int .u64 x] (.bool false) (fun _=>rfl) (fun _=>rfl) fun _ w1 _=>nan64_ok x w1),hfin _ _ ?_⟩
 refine X.cond rfl (fun hlt=>?_) (fun hge=>?_)
 ·simp only [SB.T,SI.den] at hlt
  have hlt:x<y:=hlt
  refine X.go T62_ok 400 _ rfl Tryz.results62 ?_
  conv=>arg 2;cbv
  refine X.done T62_ok rfl (fun N w' v hN hS hv=>⟨fin_int hv ?_,hS.chg.mono fun k o _ h=>inR_nil h⟩)
  simp [SI.den,Lib.compareInt,hlt]
 ·simp only [SB.F,SI.den] at hge
  have hge:y≤x:=by omega
  refine X.go T62_ok 400 _ rfl Tryz.results62 ?_
  conv=>arg 2;cbv
  refine X.cond rfl (fun hlt=>?_) (fun hge2=>?_)
  ·simp only [SB.T,SI.den] at hlt
   have hlt:y<x:=by omega
   have h2:¬x<y:=by omega
   refine X.go T62_ok 400 _ rfl Tryz.results62 ?_
   conv=>arg 2;cbv
   refine X.done T62_ok rfl (fun N w' v hN hS hv=>⟨fin_int hv ?_,hS.chg.mono fun k o _ h=>inR_nil h⟩)
   simp [SI.den,Lib.compareInt,hlt,h2]
  ·simp only [SB.F,SI.den] at hge2
   have h1:¬y<x:=by omega
   have h2:¬x<y:=by omega
   refine X.go T62_ok 400 _ rfl Tryz.results62 ?_
   conv=>arg 2;cbv
   refine X.done T62_ok rfl (fun N w' v hN hS hv=>⟨fin_int hv ?_,hS.chg.mono fun k o _ h=>inR_nil h⟩)
   simp [SI.den,Lib.compareInt,h1,h2]
theorem or2_ok (b y cp:Nat) (u v:Int) (w:World) (h0:w.cell? ⟨b,y,none⟩=some (.int .i64 u)) (h1:w.cell? ⟨b,y+1,none⟩=some (.int .i64 v)) :
  Calls Tryz.prog 61 #[.slice (some ⟨b,y,none⟩) 2 cp] w fun e w'=>e=.returned (.int .i64 (if u=0 then v else u))∧Chg (fun _ _=>False) w w':=by
 refine X.begin (rg:=[⟨false,[.int .i64 (.v u),.int .i64 (.v v)],none⟩]) (N:=[⟨b,y,2⟩]) (ss:=[.osl 0 0 2 1 (some cp)]) Tryz.func61 rfl B61_ok rfl rfl
  (Sat.std1 false (World.block_lt_of_cell? _ _ h0) (fun j c hj=>by
   match j,hj with
   | 0,hj=>simp at hj;subst hj;exact ⟨_,rfl,h0⟩
   | 1,hj=>simp at hj;subst hj;exact ⟨_,rfl,h1⟩) (fun h=>by cases h)) ?_
 refine X.goC FALL_ok true T61_ok 4000 _ rfl Tryz.results61 ?_
 conv=>arg 2;cbv
 refine X.cond rfl (fun hlt=>?_) (fun hge=>?_)
 ·simp only [SB.T,SI.den] at hlt
  have hlt:¬u=0:=hlt
  refine X.goC FALL_ok true T61_ok 4000 _ rfl Tryz.results61 ?_
  conv=>arg 2;cbv
  refine X.done T61_ok rfl (fun N w' v hN hS hv=>⟨fin_int hv ?_,hS.chg.ro1⟩)
  simp [SI.den,hlt]
 ·simp only [SB.F,SI.den] at hge
  have hge:u=0:=by omega
  refine X.goC FALL_ok true T61_ok 4000 _ rfl Tryz.results61 ?_
  conv=>arg 2;cbv
  refine X.cond rfl (fun hlt=>?_) (fun hge=>?_)
  ·refine X.go T61_ok 400 _ rfl Tryz.results61 ?_
   conv=>arg 2;cbv
   refine X.done T61_ok rfl (fun N w' v hN hS hv=>⟨fin_int hv ?_,hS.chg.ro1⟩)
   simp [SI.den,hge]
  ·simp only [SB.F,SI.den] at hge
   refine X.goC FALL_ok true T61_ok 4000 _ rfl Tryz.results61 ?_
   conv=>arg 2;cbv
   refine X.done T61_ok rfl (fun N w' v hN hS hv=>⟨fin_int hv ?_,hS.chg.ro1⟩)
   simp [SI.den]
   omega
def ptC (x:Int × Int):List Value:=[.int .u64 x.1,.int .u8 x.2]
def cfP (x y:Int × Int):Int:=if Lib.compareInt x.1 y.1=0 then Lib.compareInt x.2 y.2 else Lib.compareInt x.1 y.1
theorem or_call {E:Env} (hE:E.P=Tryz.prog) {N0:Nums} {rg:List Rg} {k:GK} {r:Nat} {ow:Bool} {a b u:Int} (hr:rg[r]?=some ⟨ow,[.int .i64 (.v a),.int .i64 (.v b)],none⟩) (hu:u=if a=0 then b else a) (cp:Option Nat):CallOk E N0 rg k 61 [.osl r 0 2 1 cp] (.int .i64 (.v u)):=fun _=>⟨by rw [hE];exact Tryz.call61,fun N w args hN hS ha=>by
  obtain ⟨p,hp⟩:∃ p,N[r]?=some p:=⟨_,List.getElem?_eq_getElem (by rw [hS.len];exact (List.getElem?_eq_some_iff.1 hr).1)⟩
  obtain ⟨_,e0,c0⟩:=hS.cell r _ p hr hp 0 _ rfl
  obtain ⟨_,e1,c1⟩:=hS.cell r _ p hr hp 1 _ rfl
  simp only [SV.den,SI.den,Option.some.injEq] at e0 e1
  subst e0 e1
  have ha':∃ c,args=[.slice (some ⟨p.b,p.o+0,none⟩) 2 c]:=by
   simp only [SV.denL,SV.den,hp] at ha
   exact ⟨_,(Option.some.inj ha).symm⟩
  obtain ⟨c,rfl⟩:=ha'
  rw [hE,hu]
  exact (or2_ok p.b p.o c a b w c0 c1).mono fun e w' ⟨h1,h2⟩=>⟨_,h1,rfl,h2⟩⟩
theorem compare_ok (x y:Int × Int) (w:World):Calls Tryz.prog 106 #[.agg (ptC x).toArray,.agg (ptC y).toArray] w fun e w'=>e=.returned (.int .i64 (cfP x y))∧Chg (fun _ _=>False) w w':=by
 obtain ⟨x1,x2⟩:=x
 obtain ⟨y1,y2⟩:=y
 obtain ⟨c1,hc1⟩:∃ c,c=Lib.compareInt x1 y1:=⟨_,rfl⟩
 obtain ⟨c2,hc2⟩:∃ c,c=Lib.compareInt x2 y2:=⟨_,rfl⟩
 obtain ⟨u,hu⟩:∃ u,u=if c1=0 then c2 else c1:=⟨_,rfl⟩
 refine X.begin (rg:=[]) (N:=[]) (ss:=[.agg [.int .u64 (.v x1),.int .u8 (.v x2)],.agg [.int .u64 (.v y1),.int .u8 (.v y2)]]) Tryz.func106 rfl B106_ok rfl rfl Sat.std0 ?_
 refine X.goP ([(9,.int .i64 (.v c1)),(14,.int .i64 (.v c2)),(16,.int .i64 (.v u))]) T106_ok 400 _ rfl Tryz.results106 (fun pr fin hpr hfin=>?_)
 conv=>cbv
 refine ⟨hpr _ (or_call rfl rfl hu _),hpr _ (.of Tryz.call63 [.int .u8 x2,.int .u8 y2] (.int .i64 c2) (fun _=>rfl) (fun _=>rfl) fun _ w1 _=>by rw [hc2];exact cmp8_ok x2 y2 w1),hpr _ (.of Tryz.call62 [.int .u64 x1,.int .u64 y1] (.int .i64 c1) (fun _=>rfl) (fun _=>rfl) fun _ w1 _=>by rw [hc1];exact cmp64_ok x1 y1 w1),hfin _ _ ?_⟩
 refine X.done T106_ok rfl (fun N w' v hN hS hv=>⟨fin_int hv ?_,hS.chg.mono fun k o _ h=>inR_nil h⟩)
 simp only [SI.den]
 rw [hu,hc1,hc2]
 rfl
theorem cmpLaysP (blk off size:Nat) (w:World):CmpLays Tryz.prog 106 #[] ptC 2 cfP blk off size w :=
 fun _ _ _ _ x y=>(compare_ok x y _).mono fun _ _ ⟨h1,h2⟩=>⟨h1,h2.grown⟩
def byL (d:Array Int):List SV:=d.toList.map fun x=>.int .u8 (.v x)
theorem byL_get {d:Array Int} {j:Nat} {c:SV} (h:(byL d)[j]?=some c):j<d.size∧c=.int .u8 (.v d[j]!):=by
 unfold byL at h
 rw [List.getElem?_map] at h
 obtain ⟨q,h1,h2⟩:=Option.map_eq_some_iff.1 h
 obtain ⟨h3,h4⟩:=List.getElem?_eq_some_iff.1 h1
 have h3':j<d.size:=by simpa using h3
 rw [getElem!_pos d j h3']
 subst h4
 exact ⟨h3',by rw [←h2];simp⟩
theorem byL_len (d:Array Int):(byL d).length=d.size:=by simp [byL]
theorem byL_one (d:Array Int):(byL d).all SV.one=true:=by
 rw [List.all_eq_true]
 intro c hc
 obtain ⟨j,hj⟩:=List.mem_iff_getElem?.1 hc
 rw [(byL_get hj).2];rfl
theorem byL_at {d:Array Int} {j:Nat} (h:j<d.size):(byL d)[j]?=some (.int .u8 (.v d[j]!)):=by
 unfold byL
 rw [List.getElem?_map,getElem!_pos d j h]
 simp [h]
def ByIn (w:World) (b y:Nat) (d:Array Int):Prop:=∀ j,j<d.size→w.cell? ⟨b,y+j,none⟩=some (.int .u8 d[j]!)
def NewA (b y c:Nat) (d:Array Int) (w:World) (e:Ending) (w':World):Prop:=e=.returned (.slice (some ⟨b,y,none⟩) d.size c)∧(0<d.size→w.heap.size≤b)∧d.size≤c∧AtA w' b y d∧Chg (fun _ _=>False) w w'
theorem clone8_pos (b y n cp:Nat) (d:Array Int) (w:World) (hn:d.size=n) (h0:n≠0) (hle:n≤1000) (hA:ByIn w b y d) :
  Calls Tryz.prog 21 #[.slice (some ⟨b,y,none⟩) n cp] w fun e w'=>∃ b' y' c',NewA b' y' c' d w e w':=by
 obtain ⟨cs,hcs⟩:∃ cs,cs=byL d:=⟨_,rfl⟩
 have hlen:cs.length=n:=by rw [hcs,byL_len,hn]
 have hA':∀ (j:Nat) (c:SV),cs[j]?=some c→∃ v,c.den [⟨b,y,cs.length⟩]=some v∧w.cell? ⟨b,y+j,none⟩=some v:=fun j c hj=>by
  rw [hcs] at hj
  obtain ⟨h1,rfl⟩:=byL_get hj
  exact ⟨_,rfl,hA j h1⟩
 refine X.begin (rg:=[⟨false,cs,none⟩]) (N:=[⟨b,y,cs.length⟩]) (ss:=[.osl 0 0 n 1 (some cp)]) Tryz.func21 rfl B21_ok rfl rfl
  (Sat.std1 false (World.block_lt_of_cell? _ _ (hA 0 (by omega))) hA' (fun h=>by cases h)) ?_
 refine X.go T21_ok 16 _ rfl Tryz.results21 ?_
 conv=>arg 2;cbv
 apply X.opEq (T:=T21) T21_ok
 ·exact opE_append (te:=ti5) (new:=cs) (m:=n) rfl rfl rfl rfl rfl rfl rfl rfl (appSrc_row (g:=⟨false,cs,none⟩) rfl rfl rfl (by show cs.length=n*1;omega))
   (appV_new (te:=ti5) rfl h0 (appOk_ok (by decide) rfl (by show cs.length=n*1;omega) (by rw [hcs];exact byL_one d) (by show (2*(0+n)+256)*1≤_;omega) (by omega))) rfl
 refine X.go T21_ok 400 _ rfl Tryz.results21 ?_
 conv=>arg 2;cbv
 refine X.done T21_ok rfl (fun N w' v hN hS hv=>?_)
 obtain ⟨p,hp⟩:∃ p,N[2]?=some p:=⟨_,List.getElem?_eq_getElem (by rw [hS.len];simp)⟩
 have hext:=hS.ext 2 ⟨true,cs,none⟩ p rfl hp rfl
 simp only [hlen] at hext
 simp only [resV,SV.den,hp,Num.cap,Option.some.injEq] at hv
 refine ⟨p.b,p.o,_,by rw [←hv,hn,Nat.add_zero],?_,?_,fun j hj=>?_,hS.chg.ro1⟩
 ·intro _
  rcases hS.foot 2 ⟨true,cs,none⟩ p rfl hp rfl with h | h
  ·exact h
  ·exact absurd (h 0 (by omega)) ro_not
 ·rw [hn];simpa using hext
 ·have hj':cs[j]?=some (.int .u8 (.v d[j]!)):=by rw [hcs];exact byL_at hj
  obtain ⟨_,e0,c0⟩:=hS.cell 2 _ p rfl hp j _ hj'
  simp only [SV.den,SI.den,Option.some.injEq] at e0
  subst e0
  exact ⟨c0,(hS.room 2 _ p rfl hp rfl j (by omega)).2⟩
theorem clone8_zero (a:Addr) (cp:Nat) (w:World) :
  Calls Tryz.prog 21 #[.slice (some a) 0 cp] w fun e w'=>∃ b' y' c',NewA b' y' c' #[] w e w':=by
 refine X.begin (rg:=[]) (N:=[]) (ss:=[.slv (some a) 0 cp]) Tryz.func21 rfl B21_ok rfl rfl Sat.std0 ?_
 refine X.go T21_ok 400 _ rfl Tryz.results21 ?_
 conv=>arg 2;cbv
 refine X.eqNil false rfl rfl rfl rfl Tryz.underlying30 (fun N _ _=>⟨_,_,_,rfl,rfl⟩) rfl ?_
 refine X.go T21_ok 400 _ rfl Tryz.results21 ?_
 conv=>arg 2;cbv
 refine X.app0 T21_ok rfl rfl rfl rfl rfl rfl rfl rfl rfl rfl (by decide) rfl (by decide) rfl ?_
 refine X.go T21_ok 400 _ rfl Tryz.results21 ?_
 conv=>arg 2;cbv
 refine X.done T21_ok rfl (fun N w' v hN hS hv=>?_)
 obtain ⟨p,hp⟩:∃ p,N[0]?=some p:=⟨_,List.getElem?_eq_getElem (by rw [hS.len];simp)⟩
 simp only [resV,SV.den,hp,Num.cap,Option.some.injEq] at hv
 refine ⟨p.b,p.o+0,_,by rw [←hv];rfl,fun h=>absurd h (Nat.lt_irrefl 0),Nat.zero_le _,fun j hj=>absurd hj (Nat.not_lt_zero _),hS.chg.none⟩
def InB (po:Option Addr) (n:Nat) (d:Array Int) (w:World):Prop:=d.size=n∧(0<n→∃ b y,po=some ⟨b,y,none⟩∧ByIn w b y d)
theorem InB.stays {po:Option Addr} {n:Nat} {d:Array Int} {w w':World} (h:InB po n d w) (hc:Chg (fun _ _=>False) w w'):InB po n d w':=⟨h.1,fun hn=>by
 obtain ⟨b,y,h1,h2⟩:=h.2 hn
 exact ⟨b,y,h1,fun j hj=>cell_of_chg hc (fun h=>h) (h2 j hj)⟩⟩
theorem clone8_any (po:Option Addr) (n cp:Nat) (d:Array Int) (w:World) (hs:po≠none) (hle:n≤1000) (hA:InB po n d w) :
  Calls Tryz.prog 21 #[.slice po n cp] w fun e w'=>∃ b' y' c',NewA b' y' c' d w e w':=by
 obtain ⟨hn,hA⟩:=hA
 by_cases h0:n=0
 ·subst h0
  have:d=#[]:=Array.size_eq_zero_iff.1 hn
  subst this
  cases po with
  | none=>exact absurd rfl hs
  | some a=>exact clone8_zero _ _ _
 ·obtain ⟨b,y,rfl,hB⟩:=hA (by omega)
  exact clone8_pos b y n cp d w hn h0 hle hB
theorem clone8_nil (cp:Nat) (w:World):Calls Tryz.prog 21 #[.slice none 0 cp] w fun e w'=>e=.returned (.slice none 0 0)∧Chg (fun _ _=>False) w w':=by
 refine X.begin (rg:=[]) (N:=[]) (ss:=[.slv none 0 cp]) Tryz.func21 rfl B21_ok rfl rfl Sat.std0 ?_
 refine X.go T21_ok 400 _ rfl Tryz.results21 ?_
 conv=>arg 2;cbv
 refine X.eqNil true rfl rfl rfl rfl Tryz.underlying30 (fun N _ _=>⟨_,_,_,rfl,rfl⟩) rfl ?_
 refine X.go T21_ok 400 _ rfl Tryz.results21 ?_
 conv=>arg 2;cbv
 refine X.done T21_ok rfl (fun N w' v hN hS hv=>?_)
 simp [resV,SV.den,one?] at hv
 exact ⟨by rw [←hv],hS.chg.none⟩
def srtA (d:Array Int):Array Int:=(d.toList.mergeSort fun x y=>!ltInt y x).toArray
def ascA (d:Array Int):Array Int:=(Go.Lib.compactUpTo (srtA d) d.size).toArray
def ptsTo (n:Int) (v:Nat):List (Int × Int):=(List.range v).map fun v:Nat=>(placeZ n v,n)
def ptsOf (n:Int):List (Int × Int):=ptsTo n 8
def ringTo (a:Array Int) (i:Nat):List (Int × Int):=(a.toList.take i).flatMap ptsOf
def ringU (a:Array Int):List (Int × Int):=a.toList.flatMap ptsOf
def ringP (d:Array Int):List (Int × Int):=(ringU (ascA d)).mergeSort fun x y=>!ltOf cfP y x
theorem srtA_of {d L:Array Int} {n:Nat} (hn:d.size=n) (h1:PermIn 0 n d L) (h2:SortedIn ltInt 0 n L):L=srtA d:=by
 subst hn
 apply Array.toList_inj.1
 rw [sorted_unique_holds swo_ltInt (fun x y h1 h2=>by simp [ltInt] at h1 h2;omega) d L h1 h2]
 rfl
theorem srtA_size (d:Array Int):(srtA d).size=d.size:=by simp [srtA]
theorem ascA_size (d:Array Int):(ascA d).size≤d.size:=by
 simp only [ascA,Go.Lib.compactUpTo,List.size_toArray,List.length_map]
 exact Nat.le_trans (List.length_filter_le _ _) (by simp)
def ptS (x:Int × Int):List SV:=[.int .u64 (.v x.1),.int .u8 (.v x.2)]
def ptsL (L:List (Int × Int)):List SV:=L.flatMap ptS
theorem ptsL_len (L:List (Int × Int)):(ptsL L).length=L.length*2:=by
 induction L with
 | nil=>rfl
 | cons x L ih=>simp only [ptsL,List.flatMap_cons,List.length_append] at ih ⊢;rw [ih];simp [ptS];omega
theorem ptsL_mem {L:List (Int × Int)} {c:SV} (h:c∈ptsL L):∃ k z,c=.int k (.v z):=by
 obtain ⟨x,_,hc⟩:=List.mem_flatMap.1 h
 simp [ptS] at hc
 rcases hc with rfl | rfl<;>exact ⟨_,_,rfl⟩
theorem ptsL_bd {L:List (Int × Int)} {m:Nat}:(ptsL L).all (bd m)=true:=List.all_eq_true.2 fun c hc=>by
 obtain ⟨k,z,rfl⟩:=ptsL_mem hc;rfl
theorem ptsL_add (L:List (Int × Int)) (x:Int × Int):ptsL (L++[x])=ptsL L++ptS x:=by simp [ptsL]
theorem ptsL_den {L:List (Int × Int)} {c:SV} {N N':Nums} {v:Value} (h:c∈ptsL L) (hv:c.den N=some v):c.den N'=some v:=by
 obtain ⟨k,z,rfl⟩:=ptsL_mem h
 exact hv
theorem wrapP {v:Nat} (h:v<256):IntKind.u8.wrap (v:Int)=v:=by
 simp [IntKind.wrap,IntKind.bits,IntKind.signed]
 omega
def ringV (L:List (Int × Int)):SV:=match L with | []=>.raw (.slice none 0 0) | _::_=>.osl 0 0 L.length 2 none
def ringR (L:List (Int × Int)):List Rg:=match L with | []=>[] | _::_=>[⟨true,ptsL L,none⟩]
theorem ringV_pos {L:List (Int × Int)} (h:L≠[]):ringV L=.osl 0 0 L.length 2 none:=by cases L with | nil=>exact absurd rfl h | cons=>rfl
theorem ringR_pos {L:List (Int × Int)} (h:L≠[]):ringR L=[⟨true,ptsL L,none⟩]:=by cases L with | nil=>exact absurd rfl h | cons=>rfl
theorem ptsTo_succ (x:Int) (v:Nat):ptsTo x (v+1)=ptsTo x v++[(placeZ x v,x)]:=by simp [ptsTo,List.range_succ]
theorem ptsTo_len (x:Int) (v:Nat):(ptsTo x v).length=v:=by simp [ptsTo]
theorem ringTo_len (a:Array Int) (i:Nat) (h:i≤a.size):(ringTo a i).length=i*8:=by
 have:∀ l:List Int,(l.flatMap ptsOf).length=l.length*8:=fun l=>by
  induction l with
  | nil=>rfl
  | cons x l ih=>rw [List.flatMap_cons,List.length_append,ih,ptsOf,ptsTo_len];simp;omega
 rw [ringTo,this]
 simp;omega
theorem ringTo_succ (a:Array Int) (i:Nat) (h:i<a.size):ringTo a (i+1)=ringTo a i++ptsTo a[i]! 8:=by
 unfold ringTo
 rw [List.take_add_one,List.flatMap_append,List.getElem?_eq_getElem (by simpa using h),getElem!_pos a i h]
 simp [ptsOf]
theorem ringTo_all (a:Array Int):ringTo a a.size=ringU a:=by
 unfold ringTo ringU
 rw [List.take_of_length_le (by simp)]
def PtsRet (L:List (Int × Int)) (w:World) (e:Ending) (w':World):Prop :=
 ∃ p c,e=.returned (.slice p L.length c)∧(L=[]∨∃ b o,p=some ⟨b,o,none⟩∧w.heap.size≤b∧HoldsK ptC 2 w' b o L.toArray)∧Chg (fun _ _=>False) w w'
theorem AtA.loc {b y n:Nat} {d:Array Int} (h:d.size≤n):Eng.Loc (arrD b y n) (fun w=>AtA w b y d):=Eng.Loc.cells fun w w' hs _ hA k hk=>by
 obtain ⟨h1,h2⟩:=hs b (y+k) ⟨rfl,by omega,by omega⟩
 rw [h1,h2]
 exact hA k hk
theorem AtA.there {b y n:Nat} {d:Array Int} {w:World} (h:n≤d.size) (hA:AtA w b y d) {k o:Nat} (hk:arrD b y n k o):There w k o:=by
 obtain ⟨rfl,h2,h3⟩:=hk
 have:=(hA (o-y) (by omega)).1
 rw [show y+(o-y)=o by omega] at this
 exact .inl (by rw [this];rfl)
theorem els_new {w:World} {k o:Nat} (h:w.heap.size≤k):elsewhere [] [] w k o=none:=by
 unfold elsewhere
 split
 ·rfl
 ·simp [World.cell?,Array.getElem?_eq_none h]
theorem els_old {w:World} {k o:Nat}:elsewhere [] [] w k o=w.cell? ⟨k,o,none⟩:=by
 unfold elsewhere
 rw [if_neg (fun h=>inR_nil h)]
theorem X.seeA {P:Program} {fn:Func} {Q:Ending→World→Prop} {W:World} {O:Nat→Nat→Prop} {im:Mem} {N0:Nums} {B:SchT} {b y n:Nat} {d:Array Int} {k:List It} {s:St} (hd:d.size≤n)
  (h:X (mkE P fn Q W O (arrM im b y d) (arrD b y n) (fun w=>AtA w b y d) N0 B) k s):X (mkE P fn Q W O im (arrD b y n) (fun w=>AtA w b y d) N0 B) k s:=by
 refine X.conv fun N a w hN hf hS=>⟨mkE P fn Q W O (arrM im b y d) (arrD b y n) (fun w=>AtA w b y d) N0 B,s,rfl,rfl,rfl,rfl,⟨N,hN,hf,Sat.imSay (E:=(mkE P fn Q W O im (arrD b y n) (fun w=>AtA w b y d) N0 B).toEnv) hS fun k o v hv=>?_⟩,h⟩
 rcases arrM_some hv with ⟨⟨e1,e2,e3⟩,e4⟩ | ⟨_,e⟩
 ·have hA:AtA w b y d:=hS.res
  refine .inr ⟨⟨e1,e2,by omega⟩,?_⟩
  have:=(hA (o-y) (by omega)).1
  rw [show y+(o-y)=o by omega] at this
  rw [e1,e4,this]
 ·exact .inl e
theorem ltP (x y:Int × Int):ltOf cfP x y=decide (x.1<y.1∨(x.1=y.1∧x.2<y.2)):=by
 obtain ⟨x1,x2⟩:=x
 obtain ⟨y1,y2⟩:=y
 unfold ltOf cfP Lib.compareInt
 simp only
 by_cases h1:x1<y1
 ·simp [h1]
 ·by_cases h2:y1<x1
  ·have:¬x1=y1:=by omega
   simp [h1,h2,this]
  ·have:x1=y1:=by omega
   subst this
   by_cases h3:x2<y2
   ·simp [h3]
   ·by_cases h4:y2<x2<;>simp [h3,h4]
theorem swoP:SWO (ltOf cfP) where
 irrefl x:=by rw [ltP];simp
 trans x y z h1 h2:=by rw [ltP] at *;simp only [decide_eq_true_eq] at *;omega
 ntrans x y z h1 h2:=by rw [ltP] at *;simp only [decide_eq_false_iff_not] at *;omega
theorem totP (x y:Int × Int) (h1:ltOf cfP x y=false) (h2:ltOf cfP y x=false):x=y:=by
 rw [ltP] at *
 simp only [decide_eq_false_iff_not] at *
 exact Prod.ext (by omega) (by omega)
theorem chg_putRowId {w:World} (b y:Nat) (F:Array Value):Chg (arrD b y F.size) w (Go.Sort.putRow id w b y F):=by
 refine chg_mapBlock (fun c=>by simp [Go.Sort.putCells]) (fun c o ho=>?_)
 simp only [Go.Sort.putCells,Array.getElem?_mapIdx]
 cases c[o]? with
 | none=>rfl
 | some x=>simp [ho]
theorem chg_grow (w:World) (os:Array Obj):Chg (fun _ _=>False) w (Go.Sort.grow w os):=by
 refine ⟨rfl,rfl,rfl,by simp [Go.Sort.grow],Nat.le_refl _,fun k hk _=>?_,fun k c e f hc=>⟨c,?_,rfl,fun _ _=>rfl⟩⟩
 ·simp [Go.Sort.grow,Array.getElem?_append_left hk]
 ·have hk:k<w.heap.size:=(Array.getElem?_eq_some_iff.1 hc).1
  simp [Go.Sort.grow,Array.getElem?_append_left hk,hc]
theorem chg_sortK {w:World} (b y m:Nat) (d:Array (Int × Int)) (os:Array Obj):Chg (arrD b y (d.size*2)) w (sortWorldK ptC 2 w b y m d os):=by
 have h:=chg_putRowId (w:=Go.Sort.ahead w m) b y (flatK ptC 2 d)
 rw [size_flatK] at h
 exact (((Chg.drewN (w:=w) m).mono fun _ _ _ h=>h.elim).trans h fun _ _ _ h=>h).trans (chg_grow _ os) fun _ _ _ h=>h.elim
theorem HoldsK.loc {b y n:Nat} {d:Array (Int × Int)} (h:d.size*2≤n):Eng.Loc (arrD b y n) (fun w=>HoldsK ptC 2 w b y d):=Eng.Loc.cells fun w w' hs _ hA k hk=>by
 have hk':k<d.size*2:=by rw [size_flatK] at hk;exact hk
 obtain ⟨h1,h2⟩:=hs b (y+k) ⟨rfl,by omega,by omega⟩
 rw [h1,h2]
 exact hA k hk
theorem ptsL_get:∀ (L:List (Int × Int)) (j:Nat),j<L.length*2→∃ c,(ptsL L)[j]?=some c∧∀ N,c.den N=some (flatK ptC 2 L.toArray)[j]!
 | [],j,h=>absurd h (by simp)
 | x::L,0,_=>⟨_,rfl,fun N=>by rw [get_flatK _ _ _ _ (by simp)];rfl⟩
 | x::L,1,_=>⟨_,rfl,fun N=>by rw [get_flatK _ _ _ _ (by simp;omega)];rfl⟩
 | x::L,j+2,h=>by
  have h':j<L.length*2:=by simp at h;omega
  obtain ⟨c,h1,h2⟩:=ptsL_get L j h'
  refine ⟨c,by rw [←h1];rfl,fun N=>?_⟩
  rw [h2 N,get_flatK _ _ L.toArray _ (by simpa using h'),get_flatK _ _ (x::L).toArray _ (by simpa using h)]
  rw [show (j+2) / 2=j / 2+1 by omega,show (j+2) % 2=j % 2 by omega]
  congr 3
  have:j / 2<L.length:=by omega
  simp [this]
theorem build_pos (p0:Option Addr) (n cp:Nat) (d:Array Int) (w:World) (hs:p0≠none) (hle:n≤1000) (hA:InB p0 n d w) :
  Calls Tryz.prog 89 #[.slice p0 n cp] w (PtsRet (ringP d) w):=by
 have hn:=hA.1
 refine X.begin (rg:=[]) (N:=[]) (ss:=[.slv p0 n cp]) Tryz.func89 rfl B89_ok rfl rfl Sat.std0 ?_
 refine X.go T89_ok 400 _ rfl Tryz.results89 ?_
 conv=>arg 2;cbv
 refine X.call rfl rfl rfl rfl Tryz.call21 (fun N w1 args hN hS ha=>?_)
 have ha:args=[.slice p0 n cp]:=(Option.some.inj ha).symm
 rw [ha]
 refine (clone8_any p0 n cp d w1 hs hle (hA.stays hS.chg.none)).mono fun e w2 ⟨b1,y1,c1,he,hfr,hdc,hA1,hch⟩=>⟨_,he,?_⟩
 have hfw:0<n→w.heap.size≤b1:=fun h=>Nat.le_trans hS.chg.size (hfr (by omega))
 have hDw:∀ k o,arrD b1 y1 n k o→w.heap.size≤k:=fun k o ⟨e1,e2,e3⟩=>by rw [e1];exact hfw (by omega)
 refine Goes.turn (r:=.slv (some ⟨b1,y1,none⟩) d.size c1) (arrD b1 y1 n) (fun w=>AtA w b1 y1 d) hN hS hch (fun _ _ h=>h.elim) (fun _ _ h=>h.elim) (by simp) (fun k o hk=>⟨.inr (by obtain ⟨e1,e2,e3⟩:=hk;rw [e1];exact hfr (by omega)),hA1.there (by omega) hk⟩) (AtA.loc (by omega)) hA1 rfl rfl ?_
 clear hA1 hch hfr he ha hS hN hA
 obtain ⟨p1,hp1⟩:∃ p,p=some (Addr.mk b1 y1 none):=⟨_,rfl⟩
 rw [hn,←hp1]
 show X (mkE Tryz.prog Tryz.f89 (PtsRet (ringP d) w) w (InR [] []) (elsewhere [] [] w) (arrD b1 y1 n) (fun w=>AtA w b1 y1 d) [] B89) _ _
 refine X.go T89_ok 400 _ rfl Tryz.results89 ?_
 conv=>arg 2;cbv
 refine X.call rfl rfl rfl rfl Tryz.call90 (fun N w1 args hN hS ha=>?_)
 have ha:args=[.slice p1 n c1]:=(Option.some.inj ha).symm
 rw [ha,hp1]
 refine (sort8_ok b1 y1 n c1 d w1 hS.res hn (by omega)).mono fun e w2 ⟨L,⟨h1,h2⟩,he,hA1,hch⟩=>⟨_,he,?_⟩
 have hL:=srtA_of hn h1 h2
 subst hL
 have hsn:(srtA d).size=n:=by rw [srtA_size,hn]
 refine Goes.turn (r:=.tup []) (arrD b1 y1 n) (fun w=>AtA w b1 y1 (srtA d)) hN hS hch (fun k o h=>.inl (hDw k o h)) (fun k o h=>els_new (hDw k o h)) (by simp) (fun k o hk=>⟨.inl hk,hA1.there (by omega) hk⟩) (AtA.loc (by omega)) hA1 rfl rfl ?_
 clear hA1 hch he ha hS hN h1 h2
 show X (mkE Tryz.prog Tryz.f89 (PtsRet (ringP d) w) w (InR [] []) (elsewhere [] [] w) (arrD b1 y1 n) (fun w=>AtA w b1 y1 (srtA d)) [] B89) _ _
 refine X.go T89_ok 400 _ rfl Tryz.results89 ?_
 conv=>arg 2;cbv
 refine X.call rfl rfl rfl rfl Tryz.call103 (fun N w1 args hN hS ha=>?_)
 have ha:args=[.slice (some ⟨b1,y1,none⟩) n c1]:=(Option.some.inj ha).symm
 rw [ha]
 have hAs:AtA w1 b1 y1 (srtA d):=hS.res
 refine (compact8_ok b1 y1 n c1 (srtA d) w1 hAs hsn (by omega) (by omega)).mono fun e w2 ⟨he,hA1,hch⟩=>⟨_,he,?_⟩
 obtain ⟨a,ha⟩:∃ a,a=ascA d:=⟨_,rfl⟩
 rw [show (Go.Lib.compactUpTo (srtA d) n).toArray=a by rw [ha,ascA,hn]] at hA1
 obtain ⟨m,hm⟩:∃ m,m=a.size:=⟨_,rfl⟩
 rw [show (Go.Lib.compactUpTo (srtA d) n).length=m by rw [hm,ha,ascA,hn];simp]
 have hmn:m≤n:=by rw [hm,ha,←hn];exact ascA_size d
 refine Goes.turn (r:=.slv (some ⟨b1,y1,none⟩) m c1) (arrD b1 y1 n) (fun w=>AtA w b1 y1 a) hN hS hch (fun k o h=>.inl (hDw k o h)) (fun k o h=>els_new (hDw k o h)) (by simp) (fun k o hk=>⟨.inl hk,?_⟩) (AtA.loc (by omega)) hA1 rfl rfl ?_
 ·obtain ⟨rfl,h2,h3⟩:=hk
  have:=(hAs (o-y1) (by omega)).1
  rw [show y1+(o-y1)=o by omega] at this
  exact .inl (some_of_chg hch o (by rw [this];rfl))
 rw [show ringP d=(ringU a).mergeSort fun x y=>!ltOf cfP y x by rw [ha];rfl]
 clear hA1 hch he hS hN hsn hAs
 rw [←hp1]
 show X (mkE Tryz.prog Tryz.f89 (PtsRet _ w) w (InR [] []) (elsewhere [] [] w) (arrD b1 y1 n) (fun w=>AtA w b1 y1 a) [] B89) _ _
 refine X.seeA (by omega) ?_
 obtain ⟨im,him⟩:∃ im,im=arrM (elsewhere [] [] w) b1 y1 a:=⟨_,rfl⟩
 rw [←him]
 have hld:∀ i,i<m→im b1 (y1+i)=some (.int .u8 a[i]!):=fun i hi=>by rw [him];exact arrM_in (by omega)
 refine X.go T89_ok 400 _ rfl Tryz.results89 ?_
 conv=>arg 2;cbv
 refine X.loop (fun _:{i:Nat // i≤m}=>mkE Tryz.prog Tryz.f89 (PtsRet ((ringU a).mergeSort fun x y=>!ltOf cfP y x) w) w (InR [] []) im (arrD b1 y1 n) (fun w=>AtA w b1 y1 a) [] B89)
  (fun g=>⟨[(4,.val (ringV (ringTo a g.1))),(13,.val (.slv p1 m c1)),(14,.val (.int .i64 (.nat m))),(15,.val (.int .i64 (.nat g.1)))],ringR (ringTo a g.1)⟩) (fun g=>m-g.1) (fun _=>⟨rfl,rfl,rfl,rfl⟩) (fun N ac w' hN hf hS=>⟨⟨0,Nat.zero_le _⟩,?_⟩) (fun g q hq=>?_)
 ·exact At.again hf hS (by repeat first | exact trivial | refine ⟨⟨_,rfl,.inl ⟨rfl,rfl⟩⟩,?_⟩ | refine ⟨⟨_,rfl,.inr ⟨_,rfl,rfl⟩⟩,?_⟩ | refine ⟨⟨_,rfl,.inr ⟨_,rfl,by simp (disch:=omega) [SV.den,SI.den,wrapU,wrapD]<;>omega⟩⟩,?_⟩) trivial
 obtain ⟨i,hi⟩:=g
 obtain ⟨L0,hL0⟩:∃ L,L=ringTo a i:=⟨_,rfl⟩
 obtain ⟨vs,hvs⟩:∃ V,V=ringV L0:=⟨_,rfl⟩
 obtain ⟨rs,hrs⟩:∃ V,V=ringR L0:=⟨_,rfl⟩
 show X (mkE Tryz.prog Tryz.f89 (PtsRet ((ringU a).mergeSort fun x y=>!ltOf cfP y x) w) w (InR [] []) im (arrD b1 y1 n) (fun w=>AtA w b1 y1 a) [] B89) _ ⟨[(4,.val (ringV (ringTo a i))),(13,.val (.slv p1 m c1)),(14,.val (.int .i64 (.nat m))),(15,.val (.int .i64 (.nat i)))],ringR (ringTo a i)⟩
 rw [←hL0,←hvs,←hrs]
 refine X.go T89_ok 400 _ rfl Tryz.results89 ?_
 conv=>arg 2;cbv
 refine X.cond rfl (fun hlt=>?_) (fun hge=>?_)
 ·simp only [SB.T,SI.den] at hlt
  have hlt:i<m:=by omega
  obtain ⟨x,hx⟩:∃ x,a[i]! = x:=⟨_,rfl⟩
  obtain ⟨oi,hoi⟩:∃ o,o=y1+i:=⟨_,rfl⟩
  refine X.goP ([(17,.ext b1 oi 0),(18,.int .u8 (.v x))]) T89_ok 400 _ rfl Tryz.results89 (fun pr fin hpr hfin=>?_)
  conv=>cbv
  refine ⟨hpr _ (ValOk.im1 rfl Tryz.isAgg5 (fun _=>rfl) fun _=>by rw [←hx,Nat.add_zero,hoi];exact hld i hlt),hpr _ (ValOk.at (z:=i) rfl rfl (fun _=>rfl) Tryz.underlying30 Tryz.sizeOf5 (fun _=>hlt) hp1 (by omega)),hfin _ _ ?_⟩
  refine X.loop (fun _:{v:Nat // v≤8}=>mkE Tryz.prog Tryz.f89 (PtsRet ((ringU a).mergeSort fun x y=>!ltOf cfP y x) w) w (InR [] []) im (arrD b1 y1 n) (fun w=>AtA w b1 y1 a) [] B89)
   (fun g=>⟨[(4,.val (ringV (L0++ptsTo x g.1))),(6,.val (.int .u8 (.v x))),(13,.val (.slv p1 m c1)),(14,.val (.int .i64 (.nat m))),(15,.val (.int .i64 (.nat i))),(19,.val (.int .i64 (.nat g.1)))],ringR (L0++ptsTo x g.1)⟩) (fun g=>8-g.1) (fun _=>⟨rfl,rfl,rfl,rfl⟩) (fun N ac w' hN hf hS=>⟨⟨0,Nat.zero_le _⟩,?_⟩) (fun g q2 hq2=>?_)
  ·show At (mkE Tryz.prog Tryz.f89 (PtsRet ((ringU a).mergeSort fun x y=>!ltOf cfP y x) w) w (InR [] []) im (arrD b1 y1 n) (fun w=>AtA w b1 y1 a) [] B89) ⟨[(4,.val (ringV (L0++ptsTo x 0))),(6,.val (.int .u8 (.v x))),(13,.val (.slv p1 m c1)),(14,.val (.int .i64 (.nat m))),(15,.val (.int .i64 (.nat i))),(19,.val (.int .i64 (.nat 0)))],ringR (L0++ptsTo x 0)⟩ ac w'
   rw [show L0++ptsTo x 0=L0 from List.append_nil _]
   subst hvs hrs
   cases L0 with
   | nil=>exact At.again hf hS (by repeat first | exact trivial | refine ⟨⟨_,rfl,.inl ⟨rfl,rfl⟩⟩,?_⟩ | refine ⟨⟨_,rfl,.inr ⟨_,rfl,rfl⟩⟩,?_⟩ | refine ⟨⟨_,rfl,.inr ⟨_,rfl,by simp (disch:=omega) [SV.den,SI.den,wrapU,wrapD]<;>omega⟩⟩,?_⟩) trivial
   | cons z L1=>exact At.again hf hS (by repeat first | exact trivial | refine ⟨⟨_,rfl,.inl ⟨rfl,rfl⟩⟩,?_⟩ | refine ⟨⟨_,rfl,.inr ⟨_,rfl,rfl⟩⟩,?_⟩ | refine ⟨⟨_,rfl,.inr ⟨_,rfl,by simp (disch:=omega) [SV.den,SI.den,wrapU,wrapD]<;>omega⟩⟩,?_⟩) ⟨fun h=>h,SubC.refl ptsL_bd,rfl,trivial⟩
  obtain ⟨v,hv⟩:=g
  obtain ⟨L,hL⟩:∃ L,L=L0++ptsTo x v:=⟨_,rfl⟩
  have hlen:L.length=i*8+v:=by rw [hL,List.length_append,hL0,ringTo_len a i (by omega),ptsTo_len]
  show X (mkE Tryz.prog Tryz.f89 (PtsRet ((ringU a).mergeSort fun x y=>!ltOf cfP y x) w) w (InR [] []) im (arrD b1 y1 n) (fun w=>AtA w b1 y1 a) [] B89) _ ⟨[(4,.val (ringV (L0++ptsTo x v))),(6,.val (.int .u8 (.v x))),(13,.val (.slv p1 m c1)),(14,.val (.int .i64 (.nat m))),(15,.val (.int .i64 (.nat i))),(19,.val (.int .i64 (.nat v)))],ringR (L0++ptsTo x v)⟩
  rw [←hL]
  clear hvs hrs
  obtain ⟨h,hh⟩:∃ h,h=placeZ x v:=⟨_,rfl⟩
  by_cases hz:L=[]
  ·rw [hz]
   rw [hz] at hlen hL
   have hlen:0=i*8+v:=hlen
   have hv0:v=0:=by omega
   show X (mkE Tryz.prog Tryz.f89 (PtsRet ((ringU a).mergeSort fun x y=>!ltOf cfP y x) w) w (InR [] []) im (arrD b1 y1 n) (fun w=>AtA w b1 y1 a) [] B89) _ ⟨[(4,.val (.raw (.slice none 0 0))),(6,.val (.int .u8 (.v x))),(13,.val (.slv p1 m c1)),(14,.val (.int .i64 (.nat m))),(15,.val (.int .i64 (.nat i))),(19,.val (.int .i64 (.nat v)))],[]⟩
   refine X.go T89_ok 400 _ rfl Tryz.results89 ?_
   conv=>arg 2;cbv
   refine X.cond rfl (fun hlt2=>?_) (fun hge2=>?_)
   ·have hlt3:v<8:=by simp only [SB.T,SI.den] at hlt2;omega
    refine X.goP ([(26,.int .u64 (.v h))]) T89_ok 17 _ rfl Tryz.results89 (fun pr fin hpr hfin=>?_)
    conv=>cbv
    refine ⟨hpr _ (.of Tryz.call104 [.int .u8 x,.int .u8 v] (.int .u64 h) (fun N=>by simp (disch:=omega) [SV.denL,SV.den,SI.den,wrapP]) (fun _=>rfl) fun _ w1 _=>by rw [hh];exact place_ok x v w1),hfin _ _ ?_⟩
    refine X.opEq (T:=T89) T89_ok (opE_append (te:=ti148) (new:=ptS (h,x)) (m:=1) rfl rfl rfl rfl rfl rfl rfl rfl (appSrc_row (g:=⟨true,ptS (h,x),none⟩) rfl rfl rfl rfl) (appV_nil (by decide) (appOk_ok (by decide) rfl rfl rfl (by decide) (by decide))) rfl) ?_
    refine X.go T89_ok 400 _ rfl Tryz.results89 ?_
    conv=>arg 2;cbv
    refine X.less [4,6,13,14,15,19] ?_
    refine X.shift (rg:=[⟨true,ptS (h,x),none⟩]) rfl [(19,.val (.int .i64 (.wrap .i64 (.add (.nat v) (.lit 1))))),(4,.val (.osl 0 0 1 2 none)),(6,.val (.int .u8 (.v x))),(13,.val (.slv p1 m c1)),(14,.val (.int .i64 (.nat m))),(15,.val (.int .i64 (.nat i)))] (fun p0 N=>⟨rfl,fun _ h=>h,rfl,fun _ h=>h,rfl,fun _ h=>h,rfl,fun _ h=>h,rfl,fun _ h=>h,rfl,fun _ h=>h,trivial⟩) (fun g hg c hc p0 N v hv=>?_) (fun g hg=>?_) ?_
    ·simp only [List.mem_cons,List.not_mem_nil,or_false] at hg
     subst hg
     exact ptsL_den (L:=[(h,x)]) hc hv
    ·simp only [List.mem_cons,List.not_mem_nil,or_false] at hg
     subst hg;rfl
    simp only [SB.T,SI.den] at hlt2
    refine X.back (fun N ac w' hN hf hS=>hq2 ⟨v+1,by omega⟩ ac w' (by simp only;omega) ?_)
    show At (mkE Tryz.prog Tryz.f89 (PtsRet ((ringU a).mergeSort fun x y=>!ltOf cfP y x) w) w (InR [] []) im (arrD b1 y1 n) (fun w=>AtA w b1 y1 a) [] B89) ⟨[(4,.val (ringV (L0++ptsTo x (v+1)))),(6,.val (.int .u8 (.v x))),(13,.val (.slv p1 m c1)),(14,.val (.int .i64 (.nat m))),(15,.val (.int .i64 (.nat i))),(19,.val (.int .i64 (.nat (v+1))))],ringR (L0++ptsTo x (v+1))⟩ ac w'
    rw [show L0++ptsTo x (v+1)=[(h,x)] by rw [ptsTo_succ,←List.append_assoc,←hL,hh];rfl]
    exact At.again hf hS (by repeat first | exact trivial | refine ⟨⟨_,rfl,.inl ⟨rfl,rfl⟩⟩,?_⟩ | refine ⟨⟨_,rfl,.inr ⟨_,rfl,rfl⟩⟩,?_⟩ | refine ⟨⟨_,rfl,.inr ⟨_,rfl,by simp (disch:=omega) [SV.den,SI.den,wrapU,wrapD]<;>omega⟩⟩,?_⟩) ⟨fun h=>h,SubC.refl rfl,rfl,trivial⟩
   ·simp only [SB.F,SI.den] at hge2
    omega
  ·rw [ringV_pos hz,ringR_pos hz]
   obtain ⟨cs,hcs⟩:∃ c,c=ptsL L:=⟨_,rfl⟩
   rw [←hcs]
   obtain ⟨ll,hll⟩:∃ q,q=L.length:=⟨_,rfl⟩
   rw [←hll] at hlen ⊢
   have hcl:cs.length=ll*2:=by rw [hcs,ptsL_len,hll]
   refine X.go T89_ok 400 _ rfl Tryz.results89 ?_
   conv=>arg 2;cbv
   refine X.cond rfl (fun hlt2=>?_) (fun hge2=>?_)
   ·have hlt3:v<8:=by simp only [SB.T,SI.den] at hlt2;omega
    refine X.goP ([(26,.int .u64 (.v h))]) T89_ok 17 _ rfl Tryz.results89 (fun pr fin hpr hfin=>?_)
    conv=>cbv
    refine ⟨hpr _ (.of Tryz.call104 [.int .u8 x,.int .u8 v] (.int .u64 h) (fun N=>by simp (disch:=omega) [SV.denL,SV.den,SI.den,wrapP]) (fun _=>rfl) fun _ w1 _=>by rw [hh];exact place_ok x v w1),hfin _ _ ?_⟩
    refine X.opEq (T:=T89) T89_ok (opE_append (te:=ti148) (new:=ptS (h,x)) (m:=1) rfl rfl rfl rfl rfl rfl rfl rfl (appSrc_row (g:=⟨true,ptS (h,x),none⟩) rfl rfl rfl rfl) (appV_hid (te:=ti148) (cs:=cs) rfl hcl (by decide) (appOk_ok (by decide) rfl rfl rfl (by show (2*(ll+1)+256)*16≤_;omega) (by omega))) rfl) ?_
    obtain ⟨cs2,hcs2⟩:∃ c,c=cs++ptS (h,x):=⟨_,rfl⟩
    rw [←hcs2]
    refine X.go T89_ok 400 _ rfl Tryz.results89 ?_
    conv=>arg 2;cbv
    refine X.less [4,6,13,14,15,19] ?_
    have hc2:cs2=ptsL (L++[(h,x)]):=by rw [hcs2,hcs,ptsL_add]
    refine X.shift (rg:=[⟨true,ptS (h,x),none⟩,⟨true,cs2,none⟩]) rfl [(19,.val (.int .i64 (.wrap .i64 (.add (.nat v) (.lit 1))))),(4,.val (.osl 1 0 (ll+1) 2 none)),(6,.val (.int .u8 (.v x))),(13,.val (.slv p1 m c1)),(14,.val (.int .i64 (.nat m))),(15,.val (.int .i64 (.nat i)))] (fun p0 N=>⟨rfl,fun _ h=>h,rfl,fun _ h=>h,rfl,fun _ h=>h,rfl,fun _ h=>h,rfl,fun _ h=>h,rfl,fun _ h=>h,trivial⟩) (fun g hg c hc p0 N v hv=>?_) (fun g hg=>?_) ?_
    ·simp only [List.mem_cons,List.not_mem_nil,or_false] at hg
     rcases hg with rfl | rfl
     ·exact ptsL_den (L:=[(h,x)]) hc hv
     ·exact ptsL_den (L:=L++[(h,x)]) (by rw [←hc2];exact hc) hv
    ·simp only [List.mem_cons,List.not_mem_nil,or_false] at hg
     rcases hg with rfl | rfl<;>rfl
    refine X.shift (rg:=[⟨true,cs2,none⟩]) rfl [(19,.val (.int .i64 (.wrap .i64 (.add (.nat v) (.lit 1))))),(4,.val (.osl 0 0 (ll+1) 2 none)),(6,.val (.int .u8 (.v x))),(13,.val (.slv p1 m c1)),(14,.val (.int .i64 (.nat m))),(15,.val (.int .i64 (.nat i)))] (fun p0 N=>⟨rfl,fun _ h=>h,rfl,fun _ h=>h,rfl,fun _ h=>h,rfl,fun _ h=>h,rfl,fun _ h=>h,rfl,fun _ h=>h,trivial⟩) (fun g hg c hc p0 N v hv=>?_) (fun g hg=>?_) ?_
    ·simp only [List.mem_cons,List.not_mem_nil,or_false] at hg
     subst hg
     exact ptsL_den (L:=L++[(h,x)]) (by rw [←hc2];exact hc) hv
    ·simp only [List.mem_cons,List.not_mem_nil,or_false] at hg
     subst hg;rfl
    simp only [SB.T,SI.den] at hlt2
    refine X.back (fun N ac w' hN hf hS=>hq2 ⟨v+1,by omega⟩ ac w' (by simp only;omega) ?_)
    show At (mkE Tryz.prog Tryz.f89 (PtsRet ((ringU a).mergeSort fun x y=>!ltOf cfP y x) w) w (InR [] []) im (arrD b1 y1 n) (fun w=>AtA w b1 y1 a) [] B89) ⟨[(4,.val (ringV (L0++ptsTo x (v+1)))),(6,.val (.int .u8 (.v x))),(13,.val (.slv p1 m c1)),(14,.val (.int .i64 (.nat m))),(15,.val (.int .i64 (.nat i))),(19,.val (.int .i64 (.nat (v+1))))],ringR (L0++ptsTo x (v+1))⟩ ac w'
    rw [show L0++ptsTo x (v+1)=L++[(h,x)] by rw [ptsTo_succ,←List.append_assoc,←hL,hh],ringV_pos (by simp),ringR_pos (by simp),←hc2,List.length_append,←hll]
    exact At.again hf hS (by repeat first | exact trivial | refine ⟨⟨_,rfl,.inl ⟨rfl,rfl⟩⟩,?_⟩ | refine ⟨⟨_,rfl,.inr ⟨_,rfl,rfl⟩⟩,?_⟩ | refine ⟨⟨_,rfl,.inr ⟨_,rfl,by simp (disch:=omega) [SV.den,SI.den,wrapU,wrapD]<;>omega⟩⟩,?_⟩) ⟨fun h=>h,SubC.refl (by rw [hc2];exact ptsL_bd),rfl,trivial⟩
   ·simp only [SB.F,SI.den] at hge2
    have hv8:v=8:=by omega
    refine X.go T89_ok 400 _ rfl Tryz.results89 ?_
    conv=>arg 2;cbv
    refine X.back (fun N ac w' hN hf hS=>hq ⟨i+1,by omega⟩ ac w' (by simp only;omega) ?_)
    show At (mkE Tryz.prog Tryz.f89 (PtsRet ((ringU a).mergeSort fun x y=>!ltOf cfP y x) w) w (InR [] []) im (arrD b1 y1 n) (fun w=>AtA w b1 y1 a) [] B89) ⟨[(4,.val (ringV (ringTo a (i+1)))),(13,.val (.slv p1 m c1)),(14,.val (.int .i64 (.nat m))),(15,.val (.int .i64 (.nat (i+1))))],ringR (ringTo a (i+1))⟩ ac w'
    rw [show ringTo a (i+1)=L by rw [ringTo_succ a i (by omega),hx,←hL0,hL,hv8],ringV_pos hz,ringR_pos hz,←hcs,←hll]
    exact At.again hf hS (by repeat first | exact trivial | refine ⟨⟨_,rfl,.inl ⟨rfl,rfl⟩⟩,?_⟩ | refine ⟨⟨_,rfl,.inr ⟨_,rfl,rfl⟩⟩,?_⟩ | refine ⟨⟨_,rfl,.inr ⟨_,rfl,by simp (disch:=omega) [SV.den,SI.den,wrapU,wrapD]<;>omega⟩⟩,?_⟩) ⟨fun h=>h,SubC.refl (by rw [hcs];exact ptsL_bd),rfl,trivial⟩
 ·simp only [SB.F,SI.den] at hge
  have hie:i=m:=by omega
  have hLU:L0=ringU a:=by rw [hL0,hie,hm,ringTo_all]
  rw [←hLU]
  subst hvs hrs
  have hll0:L0.length≤8000:=by rw [hL0,ringTo_len a i (by omega)];omega
  clear hL0 hLU
  obtain ⟨S,hSo⟩:∃ S,S=L0.mergeSort fun x y=>!ltOf cfP y x:=⟨_,rfl⟩
  rw [←hSo]
  have hSl:S.length=L0.length:=by rw [hSo,List.length_mergeSort]
  by_cases hz:L0=[]
  ·rw [hz] at hSl ⊢
   have hSn:S=[]:=List.eq_nil_of_length_eq_zero hSl
   show X (mkE Tryz.prog Tryz.f89 (PtsRet S w) w (InR [] []) im (arrD b1 y1 n) (fun w=>AtA w b1 y1 a) [] B89) _ ⟨[(16,.val (.bool (.lt (.nat i) (.nat m)))),(4,.val (.raw (.slice none 0 0))),(13,.val (.slv p1 m c1)),(14,.val (.int .i64 (.nat m))),(15,.val (.int .i64 (.nat i)))],[]⟩
   refine X.go T89_ok 400 _ rfl Tryz.results89 ?_
   conv=>arg 2;cbv
   refine X.call rfl rfl rfl rfl Tryz.call105 (fun N w1 args hN hS ha=>?_)
   have ha:args=[.slice none 0 0,.func (.func 106) #[] #[]]:=(Option.some.inj ha).symm
   rw [ha]
   have key:=AnyF.slices_SortFunc_none (P:=Tryz.prog) { Tryz.sortL with } none 0 (.func (.func 106) #[] #[]) w1
   refine Calls.mono key fun e w2 ⟨he,hw⟩=>⟨_,he,?_⟩
   subst hw
   refine Goes.same hN hS (Chg.refl _ _) (r:=.tup []) rfl rfl ?_
   refine X.go T89_ok 400 _ rfl Tryz.results89 ?_
   conv=>arg 2;cbv
   refine X.done T89_ok rfl (fun N w' v hN hS hv=>?_)
   simp [resV,SV.den,one?] at hv
   exact ⟨none,0,by rw [←hv,hSn];rfl,.inl hSn,hS.chg.none⟩
  ·rw [ringV_pos hz,ringR_pos hz]
   obtain ⟨cs,hcs⟩:∃ c,c=ptsL L0:=⟨_,rfl⟩
   obtain ⟨ll,hll⟩:∃ q,q=L0.length:=⟨_,rfl⟩
   rw [←hcs,←hll]
   have hcl:cs.length=ll*2:=by rw [hcs,ptsL_len,hll]
   have hl0:0<ll:=by rw [hll];exact List.length_pos_iff.2 hz
   have hlen:ll≤8000:=by rw [hll];exact hll0
   refine X.go T89_ok 400 _ rfl Tryz.results89 ?_
   conv=>arg 2;cbv
   refine X.call rfl rfl rfl rfl Tryz.call105 (fun N w1 args hN hS ha=>?_)
   obtain ⟨p,hp⟩:∃ p,N[0]?=some p:=⟨_,List.getElem?_eq_getElem (by rw [hS.len];simp)⟩
   obtain ⟨c,ha⟩:∃ c,args=[.slice (some ⟨p.b,p.o,none⟩) L0.toArray.size c,.func (.func 106) #[] #[]]:=by
    simp only [SV.denL,SV.den,hp] at ha
    exact ⟨p.cap 0 2 none,by rw [←Option.some.inj ha,hll,Nat.add_zero,List.size_toArray]⟩
   rw [ha]
   have hext:=hS.ext 0 _ p rfl hp rfl
   have hH:HoldsK ptC 2 w1 p.b p.o L0.toArray:=fun j hj=>by
    have hj:j<L0.length*2:=by rw [size_flatK] at hj;exact hj
    obtain ⟨c,h1,h2⟩:=ptsL_get L0 j hj
    obtain ⟨v,h3,h4⟩:=hS.cell 0 _ p rfl hp j c (by rw [←h1,hcs])
    rw [h2] at h3
    cases h3
    exact ⟨h4,(hS.room 0 _ p rfl hp rfl j (by simp only at hext;omega)).2⟩
   have key:=AnyQ.slices_SortFunc_total Tryz.sortL 2 Tryz.isAgg148 Tryz.sizeOf148 ptC (fun _=>rfl) (fun x v hv=>by simp [ptC] at hv;rcases hv with rfl | rfl<;>rfl) cfP swoP 106 #[] p.b p.o c L0.toArray w1 Tryz.call106 (cmpLaysP p.b p.o L0.toArray.size w1) hH (hS.lt 0 p hp) (by simp;omega) totP
   refine Calls.mono key fun e w2 ⟨he,q,os,hw⟩=>⟨_,he,?_⟩
   rw [show (L0.toArray.toList.mergeSort fun x y=>!ltOf cfP y x)=S by rw [hSo]] at hw
   have hch:Chg (arrD p.b p.o (ll*2)) w1 w2:=by
    have:=chg_sortK (w:=w1) p.b p.o q S.toArray os
    rw [←hw,List.size_toArray,hSl,←hll] at this
    exact this
   have hR2:HoldsK ptC 2 w2 p.b p.o S.toArray:=by
    rw [hw]
    exact holdsK_sortWorldK_c ptC 2 w1 p.b p.o L0.toArray S.toArray q os hH (hS.lt 0 p hp) (by simp [hSl])
   have hfw:w.heap.size≤p.b:=by
    rcases hS.foot 0 _ p rfl hp rfl with h | h
    ·exact h
    ·exact absurd (h 0 (by simp only at hext;omega)) (fun h=>inR_nil h)
   have s1:=Sat.give hS (r:=0) rfl hp rfl (arrD p.b p.o (ll*2)) (fun _=>True) (fun k o ⟨e1,e2,e3⟩=>.inr ⟨e1,e2,by simp only at hext;omega⟩) (fun _ _ _ _ _=>trivial) trivial
   have s2:=Sat.turn s1 (D':=arrD p.b p.o (ll*2)) (R':=fun w=>HoldsK ptC 2 w p.b p.o S.toArray) hch (fun k o ⟨e1,_,_⟩=>.inl (by rw [e1];exact hfw)) (fun k o ⟨e1,e2,e3⟩=>by
    have:=hS.imd 0 _ p rfl hp rfl (o-p.o) (by simp only at hext;omega)
    rw [show p.o+(o-p.o)=o by omega] at this
    rw [e1];exact this) (by simp) (fun k o hk=>⟨.inl hk,by
    obtain ⟨rfl,e2,e3⟩:=hk
    have:=(hR2 (o-p.o) (by rw [size_flatK];simp;omega)).1
    rw [show p.o+(o-p.o)=o by omega] at this
    exact .inl (by rw [this];rfl)⟩) (HoldsK.loc (by simp;omega)) hR2
   refine ⟨mkE Tryz.prog Tryz.f89 (PtsRet S w) w (InR [] []) im (arrD p.b p.o (ll*2)) (fun w=>HoldsK ptC 2 w p.b p.o S.toArray) N B89,N,.tup [],_,_,rfl,rfl,rfl,rfl,Nums.le.refl N,Nums.le.refl N,s2.env rfl rfl rfl rfl rfl,rfl,rfl,?_⟩
   refine X.go T89_ok 400 _ rfl Tryz.results89 ?_
   conv=>arg 2;cbv
   refine X.done T89_ok rfl (fun N' w' v hN hS hv=>?_)
   have hp':=hN 0 p hp
   simp only [resV,SV.den,hp',Option.some.injEq] at hv
   exact ⟨some ⟨p.b,p.o,none⟩,_,by rw [←hv,hSl,←hll];rfl,.inr ⟨p.b,p.o,rfl,hfw,hS.res⟩,hS.chg.none⟩
end Go.Proofs.YthpbefahaghbjaaGreat
