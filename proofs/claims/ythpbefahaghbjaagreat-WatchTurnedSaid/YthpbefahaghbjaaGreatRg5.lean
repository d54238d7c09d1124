import Derived.Test.YthpbefahaghbjaaGreatCf2
import Derived.Test.YthpbefahaghbjaaGreatPd2
set_option maxHeartbeats 16000000
set_option maxRecDepth 100000
set_option cbv.maxSteps 100000000
namespace Go.Proofs.YthpbefahaghbjaaGreat
open Go Go.Eng Go.Sort
def setS (s:Nat) (x:Int):Nat:=if x<64 then s ||| 2 ^ x.toNat else s
def setN (l:List Int):Nat:=l.foldl setS 0
theorem setN_lt:∀ (l:List Int) (s:Nat),s<2 ^ 64→l.foldl setS s<2 ^ 64
 | [],_,h=>h
 | x::l,s,h=>by
  rw [List.foldl_cons]
  refine setN_lt l _ ?_
  unfold setS
  split
  ·exact Nat.or_lt_two_pow h (Nat.pow_lt_pow_right (by decide) (by omega))
  ·exact h
def othN (l m:List Int):Nat:=l.countP fun x=>decide (x∉m)
def cntN (l:List Int) (s:Nat):Nat:=l.countP fun x=>s.testBit x.toNat
theorem vk_shl1 {E:Env} {N0:Nums} {rg:List Rg} {f:Fr} {g:GK} {t ty:TypeId} {x y:Operand} {ka kb:IntKind} {a b:SI} {n:Nat} (hx:evK f g x=some (.int ka a)) (hy:evK f g y=some (.int kb b)) (ha:a.den=1) (hk:ka=.u64) (hz:g.T→b.den=(n:Int)) (hn:n<64):ValOk E N0 rg f g (.binOp .shl t x y ty) (.int .u64 (.nat (2 ^ n))):=by
 intro ht N ρ o w hN0 hop hρ hV
 have h1:=hρ _ _ hx
 have h2:=hρ _ _ hy
 simp only [SV.den,Option.some.injEq] at h1 h2
 subst hk
 have hb:=hz ht
 rw [ha] at h1
 rw [hb] at h2
 refine ⟨.int .u64 ((2 ^ n:Nat):Int),rfl,fun w' _=>?_⟩
 have h3:(do eqGuard .shl t x y (ρ x) (ρ y);binOp .shl t (ρ x) (ρ y):Sem Value).run E.P w'=.ok (.int .u64 ((2 ^ n:Nat):Int)) w':=by
  rw [←h1,←h2]
  simp only [Sem.run_bind]
  rw [eqGuard_none _ _ _ _ (by simp) (by simp)]
  have hw:IntKind.u64.wrap (1*2 ^ min (n:Int).toNat IntKind.u64.bits)=((2 ^ n:Nat):Int):=by
   have e:min (n:Int).toNat IntKind.u64.bits=n:=by simp [IntKind.bits];omega
   rw [e,Int.one_mul,show ((2:Int) ^ n)=((2 ^ n:Nat):Int) by simp]
   exact wrapU64 _ (by have:=Nat.pow_lt_pow_right (a:=2) (by decide) hn;simpa using this)
  have hnn:¬(n:Int)<0:=by omega
  simp only [Result.andThen,binOp,Op.shift]
  rw [if_neg hnn,hw]
  rfl
 simp only [execOp,hop]
 rw [Sem.run_bind,h3]
 rfl
theorem set_ok (p:Option Addr) (n c:Nat) (d:Array Int) (w:World) (hle:n≤100000) (hA:InB p n d w) (hb:∀ x∈d.toList,0≤x∧x<256):Calls Tryz.prog 43 #[.slice p n c] w fun e w'=>e=.returned (.int .u64 (setN d.toList))∧Chg (fun _ _=>False) w w':=by
 have hn:=hA.1
 obtain ⟨Q,hQ⟩:∃ Q:Ending→World→Prop,Q=fun e w'=>e=.returned (.int .u64 (setN d.toList))∧Chg (fun _ _=>False) w w':=⟨_,rfl⟩
 rw [←hQ]
 refine X.begin (rg:=[]) (N:=[]) (ss:=[.slv p n c]) Tryz.func43 rfl B43_ok rfl rfl Sat.std0 ?_
 refine X.go T43_ok 400 _ rfl Tryz.results43 ?_
 conv=>arg 2;cbv
 refine X.loop (fun _:{i:Nat // i≤n}=>mkE Tryz.prog Tryz.f43 Q w (InR [] []) (elsewhere [] [] w) (fun _ _=>False) (fun _=>True) [] B43)
  (fun g=>⟨[(3,.val (.int .u64 (.nat (setN (d.toList.take g.1))))),(6,.val (.slv p n c)),(7,.val (.int .i64 (.nat n))),(8,.val (.int .i64 (.nat g.1)))],[]⟩) (fun g=>n-g.1) (fun _=>⟨rfl,rfl,rfl,rfl⟩) (fun N ac w' hN hf hS=>⟨⟨0,Nat.zero_le _⟩,?_⟩) (fun g q hq=>?_)
 ·exact At.again hf hS (by repeat first | exact trivial | refine ⟨⟨_,rfl,.inl ⟨rfl,rfl⟩⟩,?_⟩ | refine ⟨⟨_,rfl,.inr ⟨_,rfl,rfl⟩⟩,?_⟩ | refine ⟨⟨_,rfl,.inr ⟨_,rfl,by simp (disch:=omega) [SV.den,SI.den,wrapU,wrapD]<;>omega⟩⟩,?_⟩) trivial
 obtain ⟨i,hi⟩:=g
 show X (mkE Tryz.prog Tryz.f43 Q w (InR [] []) (elsewhere [] [] w) (fun _ _=>False) (fun _=>True) [] B43) _ ⟨[(3,.val (.int .u64 (.nat (setN (d.toList.take i))))),(6,.val (.slv p n c)),(7,.val (.int .i64 (.nat n))),(8,.val (.int .i64 (.nat i)))],[]⟩
 obtain ⟨s,hs⟩:∃ s,s=setN (d.toList.take i):=⟨_,rfl⟩
 have hs8:s<2 ^ 64:=by rw [hs];exact setN_lt _ 0 (by decide)
 rw [←hs]
 refine X.go T43_ok 400 _ rfl Tryz.results43 ?_
 conv=>arg 2;cbv
 refine X.cond rfl (fun hlt=>?_) (fun hge=>?_)
 ·simp only [SB.T,SI.den] at hlt
  have hlt:i<n:=by omega
  obtain ⟨b,y,hp,hd⟩:=hA.2 (by omega)
  obtain ⟨x,hx⟩:∃ x,x=d[i]! := ⟨_,rfl⟩
  have hxl:d.toList[i]! = x:=by rw [hx,getElem!_pos d i (by omega),getElem!_pos d.toList i (by simp;omega)];simp
  obtain ⟨oi,hoi⟩:∃ o,o=y+i:=⟨_,rfl⟩
  have hix:elsewhere [] [] w b (oi+0)=some (.int .u8 x):=by rw [Nat.add_zero,els_old,hoi,hx];exact hd i (by omega)
  have hxm:x∈d.toList:=by rw [←hxl,getElem!_pos d.toList i (by simp;omega)];exact List.getElem_mem _
  have hst:setN (d.toList.take (i+1))=setS s x:=by unfold setN;rw [foldl_take _ _ (by simp;omega),hxl,hs];rfl
  refine X.goP ([(10,.ext b oi 0),(11,.int .u8 (.v x))]) T43_ok 400 _ rfl Tryz.results43 (fun pr fin hpr hfin=>?_)
  conv=>cbv
  refine ⟨hpr _ (ValOk.im1 rfl Tryz.isAgg5 (fun _=>rfl) fun _=>hix),hpr _ (ValOk.at (z:=i) rfl rfl (fun _=>rfl) Tryz.underlying30 Tryz.sizeOf5 (fun _=>hlt) hp (by omega)),hfin _ _ ?_⟩
  refine X.cond rfl (fun hT=>?_) (fun hF=>?_)
  ·simp only [SB.T,SI.den] at hT
   obtain ⟨xn,hxn,_⟩:=byteN (hb x hxm)
   have hx64:xn<64:=by omega
   have hp2:2 ^ xn<2 ^ 64:=Nat.pow_lt_pow_right (by decide) hx64
   obtain ⟨t2,ht2⟩:∃ t,t=2 ^ xn:=⟨_,rfl⟩
   have hst2:setS s x=s ||| t2:=by unfold setS;rw [if_pos hT,hxn,ht2];simp
   have hor:=bits_or s t2 hs8 (by rw [ht2];exact hp2)
   refine X.goP ([(16,.int .u64 (.nat t2))]) T43_ok 400 _ rfl Tryz.results43 (fun pr fin hpr hfin=>?_)
   conv=>cbv
   refine ⟨hpr _ (by rw [ht2];exact vk_shl1 rfl rfl rfl rfl (fun _=>hxn) hx64),hfin _ _ ?_⟩
   refine X.reval 3 (.int .u64 (.nat (s ||| t2))) rfl (fun N _ v hv=>by rw [←hv];simp only [SV.den,SI.den,hor]) ?_
   refine X.back (fun N ac w' hN hf hS=>hq ⟨i+1,hlt⟩ ac w' (by simp only;omega) ?_)
   show At (mkE Tryz.prog Tryz.f43 Q w (InR [] []) (elsewhere [] [] w) (fun _ _=>False) (fun _=>True) [] B43) ⟨[(3,.val (.int .u64 (.nat (setN (d.toList.take (i+1)))))),(6,.val (.slv p n c)),(7,.val (.int .i64 (.nat n))),(8,.val (.int .i64 (.nat (i+1))))],[]⟩ ac w'
   rw [hst,hst2]
   exact At.again hf hS (by repeat first | exact trivial | refine ⟨⟨_,rfl,.inl ⟨rfl,rfl⟩⟩,?_⟩ | refine ⟨⟨_,rfl,.inr ⟨_,rfl,rfl⟩⟩,?_⟩ | refine ⟨⟨_,rfl,.inr ⟨_,rfl,by simp (disch:=omega) [SV.den,SI.den,wrapU,wrapD]<;>omega⟩⟩,?_⟩) trivial
  ·simp only [SB.F,SI.den] at hF
   have hst2:setS s x=s:=by unfold setS;rw [if_neg (by omega)]
   refine X.go T43_ok 400 _ rfl Tryz.results43 ?_
   conv=>arg 2;cbv
   refine X.back (fun N ac w' hN hf hS=>hq ⟨i+1,hlt⟩ ac w' (by simp only;omega) ?_)
   show At (mkE Tryz.prog Tryz.f43 Q w (InR [] []) (elsewhere [] [] w) (fun _ _=>False) (fun _=>True) [] B43) ⟨[(3,.val (.int .u64 (.nat (setN (d.toList.take (i+1)))))),(6,.val (.slv p n c)),(7,.val (.int .i64 (.nat n))),(8,.val (.int .i64 (.nat (i+1))))],[]⟩ ac w'
   rw [hst,hst2]
   exact At.again hf hS (by repeat first | exact trivial | refine ⟨⟨_,rfl,.inl ⟨rfl,rfl⟩⟩,?_⟩ | refine ⟨⟨_,rfl,.inr ⟨_,rfl,rfl⟩⟩,?_⟩ | refine ⟨⟨_,rfl,.inr ⟨_,rfl,by simp (disch:=omega) [SV.den,SI.den,wrapU,wrapD]<;>omega⟩⟩,?_⟩) trivial
 ·simp only [SB.F,SI.den] at hge
  have hall:d.toList.take i=d.toList:=List.take_of_length_le (by simp;omega)
  refine X.go T43_ok 400 _ rfl Tryz.results43 ?_
  conv=>arg 2;cbv
  refine X.done T43_ok rfl (fun N w' v hN hS hv=>?_)
  rw [hQ]
  exact ⟨fin_int hv (by rw [←hall,←hs];rfl),hS.chg.none⟩
theorem pop_count:∀ (n x:Nat),popN n x=(List.range n).countP fun i=>x.testBit i
 | 0,_=>rfl
 | n+1,x=>by
  rw [popN,pop_count n (x / 2),List.range_succ_eq_map,List.countP_cons,List.countP_map]
  have e:((fun i=>x.testBit i) ∘ Nat.succ)=fun i=>(x / 2).testBit i:=by
   funext i
   exact Nat.testBit_succ x i
  rw [e]
  congr 1
  rw [Nat.testBit_zero]
  by_cases h:x % 2=1
  ·simp [h]
  ·have:x % 2=0:=by omega
   simp [this]
theorem setN_bit {i:Nat} (hi:i<64):∀ (l:List Int) (s:Nat),(∀ x∈l,0≤x)→(l.foldl setS s).testBit i=(s.testBit i || decide ((i:Int)∈l))
 | [],s,_=>by simp
 | x::l,s,h=>by
  rw [List.foldl_cons,setN_bit hi l _ fun y hy=>h y (List.mem_cons_of_mem _ hy)]
  have hx:=h x (by simp)
  have e:(setS s x).testBit i=(s.testBit i || decide ((i:Int)=x)):=by
   unfold setS
   split
   ·rw [Nat.testBit_or,Nat.testBit_two_pow]
    congr 1
    exact decide_eq_decide.2 (by omega)
   ·have:¬(i:Int)=x:=by omega
    simp [this]
  rw [e,Bool.or_assoc]
  congr 1
  rw [Bool.eq_iff_iff]
  simp
theorem countP_range {l:List Int} (hnd:l.Nodup) (hl:∀ x∈l,0≤x∧x<64) (P:Nat→Bool):(l.countP fun x=>P x.toNat)=(List.range 64).countP fun i:Nat=>decide ((i:Int)∈l)&&P i:=by
 have hp:(((List.range 64).filter fun i:Nat=>decide ((i:Int)∈l)).map fun i:Nat=>(i:Int)).Perm l:=by
  refine (List.perm_ext_iff_of_nodup ?_ hnd).2 fun y=>?_
  ·refine List.Pairwise.imp (R:=(·<·)) (fun h=>by omega) (List.pairwise_map.2 (List.Pairwise.filter _ ?_))
   exact List.pairwise_lt_range.imp fun h=>by omega
  ·simp only [List.mem_map,List.mem_filter,List.mem_range,decide_eq_true_eq]
   constructor
   ·rintro ⟨a,⟨_,h⟩,rfl⟩
    exact h
   ·intro h
    have:=hl y h
    exact ⟨y.toNat,⟨by omega,by rw [Int.toNat_of_nonneg this.1];exact h⟩,Int.toNat_of_nonneg this.1⟩
 rw [←hp.countP_eq,List.countP_map,List.countP_filter]
 refine List.countP_congr fun i _=>?_
 simp [And.comm]
theorem pop_and {l:List Int} (hnd:l.Nodup) (hl:∀ x∈l,0≤x∧x<64) (s:Nat):popN 64 (setN l &&& s)=cntN l s:=by
 unfold cntN
 rw [pop_count,countP_range hnd hl fun i=>s.testBit i]
 refine List.countP_congr fun i hi=>?_
 rw [Nat.testBit_and,setN,setN_bit (List.mem_range.1 hi) l 0 fun x hx=>(hl x hx).1]
 simp
theorem countP_xor {α:Type} (p q:α→Bool):∀ l:List α,(l.countP fun a=>p a ^^ q a)=(l.countP fun a=>p a&&!q a)+l.countP fun a=>q a&&!p a
 | []=>rfl
 | a::l=>by
  rw [List.countP_cons,List.countP_cons,List.countP_cons,countP_xor p q l]
  cases p a<;>cases q a<;>simp<;>omega
theorem oth_range {o n:List Int} (ho:o.Nodup) (ho2:∀ x∈o,0≤x∧x<64):othN o n=(List.range 64).countP fun i:Nat=>decide ((i:Int)∈o)&&!decide ((i:Int)∈n):=by
 have e:othN o n=o.countP fun x=>(fun i:Nat=>!decide ((i:Int)∈n)) x.toNat:=by
  unfold othN
  refine List.countP_congr fun x hx=>?_
  simp only [Int.toNat_of_nonneg (ho2 x hx).1]
  simp
 rw [e,countP_range ho ho2 fun i:Nat=>!decide ((i:Int)∈n)]
theorem pop_xor {o n:List Int} (ho:o.Nodup) (ho2:∀ x∈o,0≤x∧x<64) (hn:n.Nodup) (hn2:∀ x∈n,0≤x∧x<64):popN 64 (setN o ^^^ setN n)=othN o n+othN n o:=by
 rw [oth_range ho ho2,oth_range hn hn2,←countP_xor,pop_count]
 refine List.countP_congr fun i hi=>?_
 rw [Nat.testBit_xor,setN,setN,setN_bit (List.mem_range.1 hi) o 0 fun x hx=>(ho2 x hx).1,setN_bit (List.mem_range.1 hi) n 0 fun x hx=>(hn2 x hx).1]
 simp
theorem mayP_lt {d:Array Int} (h:mayP d d.size):d.toList.Pairwise (·<·):=by
 have key:∀ j,j<d.size→∀ i,i<j→d[i]! < d[j]! := fun j=>by
  induction j with
  | zero=>intro _ i hi;omega
  | succ j ih =>
   intro hj i hi
   have h1:=(h (j+1) hj).2 (by omega)
   simp only [Nat.add_sub_cancel] at h1
   rcases Nat.lt_or_ge i j with h2 | h2
   ·have:=ih (by omega) i h2
    omega
   ·have:i=j:=by omega
    subst this
    exact h1
 refine List.pairwise_iff_getElem.2 fun i j hi hj hij=>?_
 have:=key j (by simpa using hj) i hij
 rw [getElem!_pos d i (by simpa using hi),getElem!_pos d j (by simpa using hj)] at this
 simpa using this
theorem mayP_64 {d:Array Int} (h:mayP d d.size) (hb:∀ x∈d.toList,0≤x∧x<256):∀ x∈d.toList,0≤x∧x<64:=fun x hx=>by
 obtain ⟨i,hi,rfl⟩:=List.getElem_of_mem hx
 have hi:i<d.size:=by simpa using hi
 have:=(h i hi).1
 rw [getElem!_pos d i hi] at this
 exact ⟨(hb _ hx).1,by simpa using this⟩
def mayC (C:Nat) (o n:Array Int):Prop:=0<n.size∧mayP n n.size∧if C % 2=1 then 0<o.size∧mayP o o.size∧othN o.toList n.toList+othN n.toList o.toList=1 else o.size=0
theorem InB.im {p:Option Addr} {n:Nat} {d:Array Int} {w w1:World} (h:InB p n d w) (him:∀ k o v,elsewhere [] [] w k o=some v→w1.cell? ⟨k,o,none⟩=some v):InB p n d w1:=⟨h.1,fun h0=>by
 obtain ⟨b,y,h1,h2⟩:=h.2 h0
 exact ⟨b,y,h1,fun j hj=>him _ _ _ (by rw [els_old];exact h2 j hj)⟩⟩
theorem between_ok (C:Nat) (a b:Value) (ha:one? a=true) (hb:one? b=true) (w:World):Calls Tryz.prog 41 #[.agg #[.int .u64 C,a,b]] w fun e w'=>e=.returned (.bool (decide (C % 2=1)))∧Chg (fun _ _=>False) w w':=by
 refine X.begin (rg:=[]) (N:=[]) (ss:=[.agg [.int .u64 (.nat C),.raw a,.raw b]]) Tryz.func41 rfl B41_ok rfl (by simp [SV.denL,SV.den,ha,hb,SI.den]) Sat.std0 ?_
 refine X.go T41_ok 400 _ rfl Tryz.results41 ?_
 conv=>arg 2;cbv
 refine X.done T41_ok rfl (fun N w' v hN hS hv=>⟨fin_bool hv ?_,hS.chg.none⟩)
 refine den_of ?_
 simp only [SB.T,SI.den,decide_eq_true_eq]
 rw [Int.tmod_eq_emod_of_nonneg (by omega)]
 omega
theorem cmay_ok (C:Nat) (po pn:Option Addr) (no nn co cn:Nat) (o n:Array Int) (w:World) (hno:no≤100000) (hnn:nn≤100000) (ho:InB po no o w) (hn:InB pn nn n w) (hbo:∀ x∈o.toList,0≤x∧x<256) (hbn:∀ x∈n.toList,0≤x∧x<256) :
  Calls Tryz.prog 20 #[.agg #[.int .u64 C,.slice po no co,.slice pn nn cn]] w fun e w'=>e=.returned (.bool (B (mayC C o n)))∧Chg (fun _ _=>False) w w':=by
 have hos:=ho.1
 have hns:=hn.1
 obtain ⟨Q,hQ⟩:∃ Q:Ending→World→Prop,Q=fun e w'=>e=.returned (.bool (B (mayC C o n)))∧Chg (fun _ _=>False) w w':=⟨_,rfl⟩
 rw [←hQ]
 refine X.begin (rg:=[]) (N:=[]) (ss:=[.agg [.int .u64 (.nat C),.slv po no co,.slv pn nn cn]]) Tryz.func20 rfl B20_ok rfl rfl Sat.std0 ?_
 obtain ⟨m1,hm1⟩:∃ b,b=B (mayP n nn):=⟨_,rfl⟩
 obtain ⟨m2,hm2⟩:∃ b,b=B (mayP o no):=⟨_,rfl⟩
 obtain ⟨bt,hbt⟩:∃ b,b=decide (C % 2=1):=⟨_,rfl⟩
 refine X.goP ([(5,.bool (.v m1))]) T20_ok 400 _ rfl Tryz.results20 (fun pr fin hpr hfin=>?_)
 conv=>cbv
 refine ⟨hpr _ (.of Tryz.call40 [.slice pn nn cn] (.bool m1) (fun _=>rfl) (fun _=>rfl) fun _ w1 him=>by rw [hm1];exact may_ok pn nn cn n w1 hnn (hn.im him)),hfin _ _ ?_⟩
 refine X.cond rfl (fun hT=>?_) (fun hF=>?_)
 ·simp only [SB.T,SB.F,SI.den] at hT
  have hno':¬mayC C o n:=fun ⟨h1,h2,_⟩=>by
   rcases hT with h | h
   ·rw [hm1,←hns,B_pos h2] at h;cases h
   ·omega
  refine X.go T20_ok 400 _ rfl Tryz.results20 ?_
  conv=>arg 2;cbv
  refine X.done T20_ok rfl (fun N w' v hN hS hv=>?_)
  rw [hQ]
  exact ⟨fin_bool hv (by rw [B_neg hno'];rfl),hS.chg.none⟩
 ·simp only [SB.T,SB.F,SI.den] at hF
  have hmn:mayP n n.size:=by rw [hns];exact B_iff.1 (by rw [←hm1];exact hF.1)
  have h0n:0<n.size:=by omega
  refine X.goP ([(14,.bool (.v bt))]) T20_ok 400 _ rfl Tryz.results20 (fun pr fin hpr hfin=>?_)
  conv=>cbv
  refine ⟨hpr _ (.of Tryz.call41 [.agg #[.int .u64 C,.slice po no co,.slice pn nn cn]] (.bool bt) (fun _=>rfl) (fun _=>rfl) fun _ w1 him=>by rw [hbt];exact between_ok C _ _ rfl rfl w1),hfin _ _ ?_⟩
  refine X.cond rfl (fun hT=>?_) (fun hF=>?_)
  ·simp only [SB.T,SB.F] at hT
   have hc:¬C % 2=1:=by rw [hbt] at hT;exact of_decide_eq_false hT
   refine X.go T20_ok 400 _ rfl Tryz.results20 ?_
   conv=>arg 2;cbv
   refine X.done T20_ok rfl (fun N w' v hN hS hv=>?_)
   rw [hQ]
   refine ⟨fin_bool hv (den_of ?_),hS.chg.none⟩
   rw [B_iff]
   unfold mayC
   rw [if_neg hc]
   simp only [SB.T,SI.den]
   exact ⟨fun h=>⟨h0n,hmn,by omega⟩,fun h=>by omega⟩
  ·simp only [SB.T,SB.F] at hF
   have hc:C % 2=1:=by rw [hbt] at hF;exact of_decide_eq_true hF
   obtain ⟨so,hso⟩:∃ s,s=setN o.toList:=⟨_,rfl⟩
   obtain ⟨sn,hsn⟩:∃ s,s=setN n.toList:=⟨_,rfl⟩
   have hso8:so<2 ^ 64:=by rw [hso];exact setN_lt _ 0 (by decide)
   have hsn8:sn<2 ^ 64:=by rw [hsn];exact setN_lt _ 0 (by decide)
   have hxor:=bits_xor so sn hso8 hsn8
   obtain ⟨pk,hpk⟩:∃ p,p=popN 64 (so ^^^ sn):=⟨_,rfl⟩
   refine X.goP ([(22,.bool (.v m2)),(32,.int .u64 (.nat so)),(35,.int .u64 (.nat sn)),(37,.int .i64 (.nat pk))]) T20_ok 400 _ rfl Tryz.results20 (fun pr fin hpr hfin=>?_)
   conv=>cbv
   refine ⟨hpr _ (.of Tryz.call42 [.int .u64 ((so ^^^ sn:Nat):Int)] (.int .i64 pk) (fun _=>by simp only [SV.denL,SV.den,SI.den,hxor]) (fun _=>rfl) fun _ w1 _=>by rw [hpk];exact ones_ok _ w1 (Nat.xor_lt_two_pow hso8 hsn8)),
    hpr _ (.of Tryz.call43 [.slice pn nn cn] (.int .u64 sn) (fun _=>rfl) (fun _=>rfl) fun _ w1 him=>by rw [hsn];exact set_ok pn nn cn n w1 hnn (hn.im him) hbn),
    hpr _ (.of Tryz.call43 [.slice po no co] (.int .u64 so) (fun _=>rfl) (fun _=>rfl) fun _ w1 him=>by rw [hso];exact set_ok po no co o w1 hno (ho.im him) hbo),
    hpr _ (.of Tryz.call40 [.slice po no co] (.bool m2) (fun _=>rfl) (fun _=>rfl) fun _ w1 him=>by rw [hm2];exact may_ok po no co o w1 hno (ho.im him)),hfin _ _ ?_⟩
   refine X.done T20_ok rfl (fun N w' v hN hS hv=>?_)
   rw [hQ]
   refine ⟨fin_bool hv (den_of ?_),hS.chg.none⟩
   rw [B_iff]
   unfold mayC
   rw [if_pos hc]
   simp only [SB.T,SI.den]
   have hb2:m2=true↔mayP o o.size:=by rw [hm2,B_iff,hos]
   constructor
   ·rintro ⟨⟨h1,h2⟩,h3⟩
    have hmo:=hb2.1 h1
    refine ⟨h0n,hmn,by omega,hmo,?_⟩
    rw [←pop_xor ((mayP_lt hmo).imp fun h=>by omega) (mayP_64 hmo hbo) ((mayP_lt hmn).imp fun h=>by omega) (mayP_64 hmn hbn),←hso,←hsn,←hpk]
    omega
   ·rintro ⟨_,_,h1,hmo,h3⟩
    refine ⟨⟨hb2.2 hmo,by omega⟩,?_⟩
    rw [←pop_xor ((mayP_lt hmo).imp fun h=>by omega) (mayP_64 hmo hbo) ((mayP_lt hmn).imp fun h=>by omega) (mayP_64 hmn hbn),←hso,←hsn,←hpk] at h3
    omega
def BytNew (l:List Int) (s0:Nat) (M:Mem) (p:Option Addr) (c:Nat):Prop:=l.length≤c∧(l=[]∧p=none∧c=0∨l≠[]∧∃ b y,p=some ⟨b,y,none⟩∧s0≤b∧∀ j,j<l.length→M b (y+j)=some (.int .u8 l[j]!))
theorem BytNew.mono {l:List Int} {s0 s1:Nat} {M M':Mem} {p:Option Addr} {c:Nat} (h:BytNew l s0 M p c) (hs:s1≤s0) (hM:∀ k o v,s0≤k→M k o=some v→M' k o=some v):BytNew l s1 M' p c:=⟨h.1,h.2.imp id fun ⟨hne,b,y,h1,h2,h3⟩=>⟨hne,b,y,h1,Nat.le_trans hs h2,fun j hj=>hM _ _ _ h2 (h3 j hj)⟩⟩
theorem BytRet.new {l:List Int} {w w':World} {e:Ending} (h:BytRet l w e w'):∃ p c,e=.returned (.slice p l.length c)∧BytNew l w.heap.size (wm w') p c∧Chg (fun _ _=>False) w w':=by
 obtain ⟨p,c,he,hc,hr,hch⟩:=h
 refine ⟨p,c,he,⟨hc,?_⟩,hch⟩
 rcases hr with h | ⟨hne,b,o,h1,h2,h3⟩
 ·exact .inl h
 ·refine .inr ⟨hne,b,o,h1,h2,fun j hj=>?_⟩
  have:=(h3 j (by simpa using hj)).1
  simpa [wm,hj] using this
theorem BytNew.inB {l:List Int} {s0:Nat} {M:Mem} {p:Option Addr} {c:Nat} (h:BytNew l s0 M p c) {w:World} (hM:∀ k o v,M k o=some v→w.cell? ⟨k,o,none⟩=some v):InB p l.length l.toArray w:=⟨by simp,fun h0=>by
 rcases h.2 with ⟨h1,_⟩ | ⟨_,b,y,h1,_,h3⟩
 ·rw [h1] at h0;simp at h0
 ·exact ⟨b,y,h1,fun j hj=>by
   have hj:j<l.length:=by simpa using hj
   have:=hM _ _ _ (h3 j hj)
   simpa [hj] using this⟩⟩
def ringsL (C:Nat) (o n:Array Int) (key:Int):List (List Int):=if C % 2=1 then [ofL n key,ofL o key] else [ofL n key]
def RingsRet (ls:List (List Int)) (w:World) (e:Ending) (w':World):Prop :=
 ∃ b o c,e=.returned (.slice (some ⟨b,o,none⟩) ls.length c)∧w.heap.size≤b∧(∀ j,j<ls.length→∃ p c,wm w' b (o+j)=some (.slice p ls[j]!.length c)∧BytNew ls[j]! w.heap.size (wm w') p c)∧Chg (fun _ _=>False) w w'
theorem rings_ok (C:Nat) (po pn:Option Addr) (no nn co cn:Nat) (o n:Array Int) (key:Int) (w:World) (hno:no≤1000) (hnn:nn≤1000) (ho:InB po no o w) (hn:InB pn nn n w) (hbo:∀ x∈o.toList,0≤x∧x<256) (hbn:∀ x∈n.toList,0≤x∧x<256) :
  Calls Tryz.prog 55 #[.agg #[.int .u64 C,.slice po no co,.slice pn nn cn],.int .u8 key] w (RingsRet (ringsL C o n key) w):=by
 obtain ⟨Q,hQ⟩:∃ Q:Ending→World→Prop,Q=RingsRet (ringsL C o n key) w:=⟨_,rfl⟩
 rw [←hQ]
 refine X.begin (rg:=[]) (N:=[]) (ss:=[.agg [.int .u64 (.nat C),.slv po no co,.slv pn nn cn],.int .u8 (.v key)]) Tryz.func55 rfl B55_ok rfl rfl Sat.std0 ?_
 obtain ⟨bt,hbt⟩:∃ b,b=decide (C % 2=1):=⟨_,rfl⟩
 refine X.go T55_ok 400 _ rfl Tryz.results55 ?_
 conv=>arg 2;cbv
 refine X.call rfl rfl rfl rfl Tryz.call68 (fun N w1 args hN hS ha=>?_)
 have ha:args=[.slice pn nn cn,.int .u8 key]:=(Option.some.inj ha).symm
 rw [ha]
 refine (of_ok pn nn cn n key w1 hnn (hn.stays hS.chg.none) hbn).mono fun e w2 hr=>?_
 obtain ⟨p1,c1,he,hb1,hch⟩:=hr.new
 obtain ⟨l1,hl1⟩:∃ l,l=ofL n key:=⟨_,rfl⟩
 obtain ⟨q1,hq1⟩:∃ q,q=l1.length:=⟨_,rfl⟩
 rw [←hl1] at hb1 he
 rw [←hq1] at he
 refine ⟨_,he,Goes.newMem hN hS hch (r:=.slv p1 q1 c1) rfl rfl (fun hold hnew=>?_)⟩
 obtain ⟨im,him⟩:∃ im,im=imNew (elsewhere [] [] w) w1 w2:=⟨_,rfl⟩
 have hb1:BytNew l1 w.heap.size im p1 c1:=hb1.mono hS.chg.size fun k o v hk hv=>by rw [him];exact hnew _ _ _ hk hv
 have hoM:∀ w':World,(∀ k o v,im k o=some v→w'.cell? ⟨k,o,none⟩=some v)→InB po no o w':=fun w' h=>ho.im fun k o v hv=>h _ _ _ (by rw [him];exact hold _ _ _ hv)
 show X (mkE Tryz.prog Tryz.f55 Q w (InR [] []) (imNew (elsewhere [] [] w) w1 w2) (fun _ _=>False) (fun _=>True) [] B55) _ _
 rw [←him]
 clear him hold hnew hr hch he ha hS hN
 refine X.goP ([(12,.bool (.v bt))]) T55_ok 400 _ rfl Tryz.results55 (fun pr fin hpr hfin=>?_)
 conv=>cbv
 refine ⟨hpr _ (.of Tryz.call41 [.agg #[.int .u64 C,.slice po no co,.slice pn nn cn]] (.bool bt) (fun _=>rfl) (fun _=>rfl) fun _ w1 _=>by rw [hbt];exact between_ok C _ _ rfl rfl w1),hfin _ _ ?_⟩
 refine X.cond rfl (fun hT=>?_) (fun hF=>?_)
 ·simp only [SB.T] at hT
  have hc:C % 2=1:=by rw [hbt] at hT;exact of_decide_eq_true hT
  have hrl:ringsL C o n key=[l1,ofL o key]:=by rw [ringsL,if_pos hc,hl1]
  refine X.go T55_ok 400 _ rfl Tryz.results55 ?_
  conv=>arg 2;cbv
  refine X.call rfl rfl rfl rfl Tryz.call68 (fun N w3 args hN hS ha=>?_)
  have ha:args=[.slice po no co,.int .u8 key]:=(Option.some.inj ha).symm
  rw [ha]
  refine (of_ok po no co o key w3 hno (hoM w3 hS.imm) hbo).mono fun e w4 hr=>?_
  obtain ⟨p2,c2,he,hb2,hch⟩:=hr.new
  obtain ⟨l2,hl2⟩:∃ l,l=ofL o key:=⟨_,rfl⟩
  obtain ⟨q2,hq2⟩:∃ q,q=l2.length:=⟨_,rfl⟩
  rw [←hl2] at hb2 he
  rw [←hq2] at he
  refine ⟨_,he,Goes.newMem hN hS hch (r:=.slv p2 q2 c2) rfl rfl (fun hold hnew=>?_)⟩
  obtain ⟨im2,him2⟩:∃ im2,im2=imNew im w3 w4:=⟨_,rfl⟩
  have hb2:BytNew l2 w.heap.size im2 p2 c2:=hb2.mono hS.chg.size fun k o v hk hv=>by rw [him2];exact hnew _ _ _ hk hv
  have hb1:BytNew l1 w.heap.size im2 p1 c1:=hb1.mono (Nat.le_refl _) fun k o v hk hv=>by rw [him2];exact hold _ _ _ hv
  show X (mkE Tryz.prog Tryz.f55 Q w (InR [] []) (imNew im w3 w4) (fun _ _=>False) (fun _=>True) [] B55) _ _
  rw [←him2]
  clear him2 hold hnew hr hch he ha hS hN
  refine X.go T55_ok 400 _ rfl Tryz.results55 ?_
  conv=>arg 2;cbv
  refine X.done T55_ok rfl (fun N w' v hN hS hv=>?_)
  rw [hQ,hrl,←hl2]
  obtain ⟨p,hp⟩:=num_of hS (r:=3) rfl
  simp only [resV,SV.den,hp,Option.some.injEq] at hv
  have hx:=hS.ext 3 _ p rfl hp rfl
  simp only [List.length_cons,List.length_nil] at hx
  refine ⟨p.b,p.o,_,by rw [←hv,Nat.add_zero];rfl,?_,fun j hj=>?_,hS.chg.none⟩
  ·rcases hS.foot 3 _ p rfl hp rfl with h | h
   ·exact h
   ·exact absurd (h 0 (by omega)) (fun h=>inR_nil h)
  ·match j,hj with
   | 0,_ =>
    obtain ⟨v,e1,e2⟩:=hS.cell 3 _ p rfl hp 0 _ rfl
    simp only [SV.den,Option.some.injEq] at e1
    exact ⟨p1,c1,by rw [wm,e2,←e1,hq1];rfl,hb1.mono (Nat.le_refl _) fun k o v _ hv=>hS.imm _ _ _ hv⟩
   | 1,_ =>
    obtain ⟨v,e1,e2⟩:=hS.cell 3 _ p rfl hp 1 _ rfl
    simp only [SV.den,Option.some.injEq] at e1
    exact ⟨p2,c2,by rw [wm,e2,←e1,hq2];rfl,hb2.mono (Nat.le_refl _) fun k o v _ hv=>hS.imm _ _ _ hv⟩
 ·simp only [SB.F] at hF
  have hc:¬C % 2=1:=by rw [hbt] at hF;exact of_decide_eq_false hF
  have hrl:ringsL C o n key=[l1]:=by rw [ringsL,if_neg hc,hl1]
  refine X.go T55_ok 400 _ rfl Tryz.results55 ?_
  conv=>arg 2;cbv
  refine X.done T55_ok rfl (fun N w' v hN hS hv=>?_)
  rw [hQ,hrl]
  obtain ⟨p,hp⟩:=num_of hS (r:=1) rfl
  simp only [resV,SV.den,hp,Option.some.injEq] at hv
  have hx:=hS.ext 1 _ p rfl hp rfl
  simp only [List.length_cons,List.length_nil] at hx
  refine ⟨p.b,p.o,_,by rw [←hv,Nat.add_zero];rfl,?_,fun j hj=>?_,hS.chg.none⟩
  ·rcases hS.foot 1 _ p rfl hp rfl with h | h
   ·exact h
   ·exact absurd (h 0 (by omega)) (fun h=>inR_nil h)
  ·match j,hj with
   | 0,_ =>
    obtain ⟨v,e1,e2⟩:=hS.cell 1 _ p rfl hp 0 _ rfl
    simp only [SV.den,Option.some.injEq] at e1
    exact ⟨p1,c1,by rw [wm,e2,←e1,hq1];rfl,hb1.mono (Nat.le_refl _) fun k o v _ hv=>hS.imm _ _ _ hv⟩
def maj (l:List Int) (s:Nat):Prop:=l.length<2*cntN l s
def quoC (C:Nat) (o n:Array Int) (key:Int) (s:Nat):Prop:=mayC C o n∧maj (ofL n key) s∧(C % 2=1→maj (ofL o key) s)
theorem ofL_sub {d:Array Int} {key x:Int} (h:x∈ofL d key):x∈d.toList:=by
 rw [(ofL_perm d key).mem_iff,keepL_eq (ringP_rise d)] at h
 have:=List.mem_of_mem_take h
 rw [dd_mem] at this
 rcases this with h | h
 ·cases h
 ·exact (nodes_mem d _ x).1 h
theorem quoC_rings {C:Nat} {o n:Array Int} {key:Int} {s:Nat} (h:mayC C o n):quoC C o n key s↔∀ j,j<(ringsL C o n key).length→maj (ringsL C o n key)[j]! s:=by
 unfold quoC ringsL
 by_cases hc:C % 2=1
 ·rw [if_pos hc]
  constructor
  ·rintro ⟨_,h1,h2⟩ j hj
   match j,hj with
   | 0,_=>exact h1
   | 1,_=>exact h2 hc
  ·intro h2
   exact ⟨h,h2 0 (by simp),fun _=>h2 1 (by simp)⟩
 ·rw [if_neg hc]
  constructor
  ·rintro ⟨_,h1,_⟩ j hj
   match j,hj with
   | 0,_=>exact h1
  ·intro h2
   exact ⟨h,h2 0 (by simp),fun e=>absurd e hc⟩
theorem rings_64 {C:Nat} {o n:Array Int} {key:Int} (h:mayC C o n) (hbo:∀ x∈o.toList,0≤x∧x<256) (hbn:∀ x∈n.toList,0≤x∧x<256):∀ j,j<(ringsL C o n key).length→(ringsL C o n key)[j]!.Nodup∧∀ x∈(ringsL C o n key)[j]!,0≤x∧x<64:=by
 obtain ⟨_,hmn,hrest⟩:=h
 have k1:(ofL n key).Nodup∧∀ x∈ofL n key,0≤x∧x<64:=⟨(ofL_lt n key).imp fun h=>by omega,fun x hx=>mayP_64 hmn hbn x (ofL_sub hx)⟩
 unfold ringsL
 by_cases hc:C % 2=1
 ·rw [if_pos hc] at hrest ⊢
  have k2:(ofL o key).Nodup∧∀ x∈ofL o key,0≤x∧x<64:=⟨(ofL_lt o key).imp fun h=>by omega,fun x hx=>mayP_64 hrest.2.1 hbo x (ofL_sub hx)⟩
  intro j hj
  match j,hj with
  | 0,_=>exact k1
  | 1,_=>exact k2
 ·rw [if_neg hc]
  intro j hj
  match j,hj with
  | 0,_=>exact k1
theorem rings_len {C:Nat} {o n:Array Int} {key:Int} (ho:o.size≤100) (hn:n.size≤100):(ringsL C o n key).length≤2∧∀ j,j<(ringsL C o n key).length→(ringsL C o n key)[j]!.length≤1000:=by
 unfold ringsL
 split
 ·refine ⟨by simp,fun j hj=>?_⟩
  match j,hj with
  | 0,_=>exact ofL_len n key hn
  | 1,_=>exact ofL_len o key ho
 ·refine ⟨by simp,fun j hj=>?_⟩
  match j,hj with
  | 0,_=>exact ofL_len n key hn
theorem quorum_ok (C s:Nat) (po pn:Option Addr) (no nn co cn:Nat) (o n:Array Int) (key:Int) (w:World) (hno:no≤100) (hnn:nn≤100) (hs:s<2 ^ 64) (ho:InB po no o w) (hn:InB pn nn n w) (hbo:∀ x∈o.toList,0≤x∧x<256) (hbn:∀ x∈n.toList,0≤x∧x<256) :
  Calls Tryz.prog 25 #[.agg #[.int .u64 C,.slice po no co,.slice pn nn cn],.int .u8 key,.int .u64 s] w fun e w'=>e=.returned (.bool (B (quoC C o n key s)))∧Chg (fun _ _=>False) w w':=by
 have hos:=ho.1
 have hns:=hn.1
 obtain ⟨Q,hQ⟩:∃ Q:Ending→World→Prop,Q=fun e w'=>e=.returned (.bool (B (quoC C o n key s)))∧Chg (fun _ _=>False) w w':=⟨_,rfl⟩
 rw [←hQ]
 refine X.begin (rg:=[]) (N:=[]) (ss:=[.agg [.int .u64 (.nat C),.slv po no co,.slv pn nn cn],.int .u8 (.v key),.int .u64 (.nat s)]) Tryz.func25 rfl B25_ok rfl rfl Sat.std0 ?_
 obtain ⟨m1,hm1⟩:∃ b,b=B (mayC C o n):=⟨_,rfl⟩
 refine X.goP ([(10,.bool (.v m1))]) T25_ok 400 _ rfl Tryz.results25 (fun pr fin hpr hfin=>?_)
 conv=>cbv
 refine ⟨hpr _ (.of Tryz.call20 [.agg #[.int .u64 C,.slice po no co,.slice pn nn cn]] (.bool m1) (fun _=>rfl) (fun _=>rfl) fun _ w1 him=>by rw [hm1];exact cmay_ok C po pn no nn co cn o n w1 (by omega) (by omega) (ho.im him) (hn.im him) hbo hbn),hfin _ _ ?_⟩
 refine X.cond rfl (fun hT=>?_) (fun hF=>?_)
 ·simp only [SB.T,SB.F] at hT
  have hno':¬quoC C o n key s:=fun h=>by rw [hm1,B_pos h.1] at hT;cases hT
  refine X.go T25_ok 400 _ rfl Tryz.results25 ?_
  conv=>arg 2;cbv
  refine X.done T25_ok rfl (fun N w' v hN hS hv=>?_)
  rw [hQ]
  exact ⟨fin_bool hv (by rw [B_neg hno'];rfl),hS.chg.none⟩
 simp only [SB.T,SB.F] at hF
 have hmay:mayC C o n:=B_iff.1 (by rw [←hm1];exact hF)
 refine X.go T25_ok 400 _ rfl Tryz.results25 ?_
 conv=>arg 2;cbv
 refine X.call rfl rfl rfl rfl Tryz.call55 (fun N w1 args hN hS ha=>?_)
 have ha:args=[.agg #[.int .u64 C,.slice po no co,.slice pn nn cn],.int .u8 key]:=(Option.some.inj ha).symm
 rw [ha]
 refine (rings_ok C po pn no nn co cn o n key w1 (by omega) (by omega) (ho.stays hS.chg.none) (hn.stays hS.chg.none) hbo hbn).mono fun e w2 ⟨b,y,c,he,hfr,hcell,hch⟩=>?_
 have hq:=quoC_rings (key:=key) (s:=s) hmay
 have h64:=rings_64 (key:=key) hmay hbo hbn
 obtain ⟨hl2,hl3⟩:=rings_len (C:=C) (key:=key) (show o.size≤100 by omega) (show n.size≤100 by omega)
 obtain ⟨ls,hls⟩:∃ l,l=ringsL C o n key:=⟨_,rfl⟩
 obtain ⟨m,hm⟩:∃ m,m=ls.length:=⟨_,rfl⟩
 rw [←hls] at hq h64 hl2 hl3 he hcell
 rw [←hm] at hq h64 hl2 hl3 he hcell
 refine ⟨_,he,Goes.newMem hN hS hch (r:=.slv (some ⟨b,y,none⟩) m c) rfl rfl (fun hold hnew=>?_)⟩
 obtain ⟨im,him⟩:∃ im,im=imNew (elsewhere [] [] w) w1 w2:=⟨_,rfl⟩
 have hcell:∀ j,j<m→∃ p c,im b (y+j)=some (.slice p ls[j]!.length c)∧BytNew ls[j]! 0 im p c:=fun j hj=>by
  obtain ⟨p,c,h1,h2⟩:=hcell j hj
  exact ⟨p,c,by rw [him];exact hnew _ _ _ hfr h1,h2.mono (Nat.zero_le _) fun k o v hk hv=>by rw [him];exact hnew _ _ _ hk hv⟩
 obtain ⟨pr,hpr0⟩:∃ p,p=some (Addr.mk b y none):=⟨_,rfl⟩
 show X (mkE Tryz.prog Tryz.f25 Q w (InR [] []) (imNew (elsewhere [] [] w) w1 w2) (fun _ _=>False) (fun _=>True) [] B25) _ _
 rw [←him,←hpr0]
 clear him hold hnew hch he ha hS hN
 refine X.go T25_ok 400 _ rfl Tryz.results25 ?_
 conv=>arg 2;cbv
 refine X.loop (fun _:{i:Nat // i≤m∧∀ j,j<i→maj ls[j]! s}=>mkE Tryz.prog Tryz.f25 Q w (InR [] []) im (fun _ _=>False) (fun _=>True) [] B25)
  (fun g=>⟨[(2,.val (.int .u64 (.nat s))),(14,.val (.slv pr m c)),(15,.val (.int .i64 (.nat m))),(16,.val (.int .i64 (.nat g.1)))],[]⟩) (fun g=>m-g.1) (fun _=>⟨rfl,rfl,rfl,rfl⟩) (fun N ac w' hN hf hS=>⟨⟨0,Nat.zero_le _,fun j hj=>absurd hj (Nat.not_lt_zero j)⟩,?_⟩) (fun g q hq2=>?_)
 ·exact At.again hf hS (by repeat first | exact trivial | refine ⟨⟨_,rfl,.inl ⟨rfl,rfl⟩⟩,?_⟩ | refine ⟨⟨_,rfl,.inr ⟨_,rfl,rfl⟩⟩,?_⟩ | refine ⟨⟨_,rfl,.inr ⟨_,rfl,by simp (disch:=omega) [SV.den,SI.den,wrapU,wrapD]<;>omega⟩⟩,?_⟩) trivial
 obtain ⟨i,hi,hmaj⟩:=g
 show X (mkE Tryz.prog Tryz.f25 Q w (InR [] []) im (fun _ _=>False) (fun _=>True) [] B25) _ ⟨[(2,.val (.int .u64 (.nat s))),(14,.val (.slv pr m c)),(15,.val (.int .i64 (.nat m))),(16,.val (.int .i64 (.nat i)))],[]⟩
 refine X.go T25_ok 400 _ rfl Tryz.results25 ?_
 conv=>arg 2;cbv
 refine X.cond rfl (fun hlt=>?_) (fun hge=>?_)
 ·simp only [SB.T,SI.den] at hlt
  have hlt:i<m:=by omega
  obtain ⟨p1,c1,hc1,hb1⟩:=hcell i hlt
  obtain ⟨hnd,hx64⟩:=h64 i hlt
  have hl1000:=hl3 i hlt
  obtain ⟨l,hl⟩:∃ l,l=ls[i]! := ⟨_,rfl⟩
  rw [←hl] at hc1 hb1 hnd hx64 hl1000
  obtain ⟨q1,hq1⟩:∃ q,q=l.length:=⟨_,rfl⟩
  obtain ⟨oi,hoi⟩:∃ o,o=y+i:=⟨_,rfl⟩
  obtain ⟨sl,hsl⟩:∃ t,t=setN l:=⟨_,rfl⟩
  have hsl8:sl<2 ^ 64:=by rw [hsl];exact setN_lt _ 0 (by decide)
  have hand:=bits_and sl s hsl8 hs
  obtain ⟨k,hk⟩:∃ k,k=cntN l s:=⟨_,rfl⟩
  have hk8:k≤1000:=by rw [hk];exact Nat.le_trans List.countP_le_length hl1000
  refine X.goP ([(18,.ext b oi 0),(19,.slv p1 q1 c1),(21,.int .u64 (.nat sl)),(24,.int .i64 (.nat k))]) T25_ok 400 _ rfl Tryz.results25 (fun pr fin hpr hfin=>?_)
  conv=>cbv
  refine ⟨hpr _ (.of Tryz.call42 [.int .u64 ((sl &&& s:Nat):Int)] (.int .i64 k) (fun _=>by simp only [SV.denL,SV.den,SI.den,hand]) (fun _=>rfl) fun _ w1 _=>by rw [hk,←pop_and hnd hx64,←hsl];exact ones_ok _ w1 (Nat.lt_of_le_of_lt Nat.and_le_left hsl8)),
   hpr _ (.of Tryz.call43 [.slice p1 q1 c1] (.int .u64 sl) (fun _=>rfl) (fun _=>rfl) fun _ w1 him=>by rw [hsl,hq1];exact set_ok p1 l.length c1 l.toArray w1 (by omega) (hb1.inB him) (fun x hx=>by have:=hx64 x (by simpa using hx);omega)),
   hpr _ (ValOk.im1 rfl Tryz.isAgg30 (fun _=>rfl) fun _=>by rw [Nat.add_zero,hoi,hq1];exact hc1),hpr _ (ValOk.at (z:=i) rfl rfl (fun _=>rfl) Tryz.underlying108 Tryz.sizeOf30 (fun _=>hlt) hpr0 (by omega)),hfin _ _ ?_⟩
  have hmul:IntKind.i64.wrap (2*(k:Int))=2*(k:Int):=wrapN _ (by omega) (by omega)
  refine X.cond rfl (fun hT=>?_) (fun hF=>?_)
  ·simp only [SB.T,SI.den,hmul] at hT
   have hno':¬quoC C o n key s:=fun h=>by
    have:=hq.1 h i hlt
    rw [←hl,maj,←hk] at this
    omega
   refine X.go T25_ok 400 _ rfl Tryz.results25 ?_
   conv=>arg 2;cbv
   refine X.done T25_ok rfl (fun N w' v hN hS hv=>?_)
   rw [hQ]
   exact ⟨fin_bool hv (by rw [B_neg hno'];rfl),hS.chg.none⟩
  ·simp only [SB.F,SI.den,hmul] at hF
   refine X.go T25_ok 400 _ rfl Tryz.results25 ?_
   conv=>arg 2;cbv
   refine X.back (fun N ac w' hN hf hS=>hq2 ⟨i+1,hlt,fun j hj=>?_⟩ ac w' (by simp only;omega) ?_)
   ·rcases Nat.lt_or_ge j i with h | h
    ·exact hmaj j h
    ·have:j=i:=by omega
     subst this
     rw [←hl,maj,←hk]
     omega
   ·exact At.again hf hS (by repeat first | exact trivial | refine ⟨⟨_,rfl,.inl ⟨rfl,rfl⟩⟩,?_⟩ | refine ⟨⟨_,rfl,.inr ⟨_,rfl,rfl⟩⟩,?_⟩ | refine ⟨⟨_,rfl,.inr ⟨_,rfl,by simp (disch:=omega) [SV.den,SI.den,wrapU,wrapD]<;>omega⟩⟩,?_⟩) trivial
 ·simp only [SB.F,SI.den] at hge
  have hyes:quoC C o n key s:=hq.2 fun j hj=>hmaj j (by omega)
  refine X.go T25_ok 400 _ rfl Tryz.results25 ?_
  conv=>arg 2;cbv
  refine X.done T25_ok rfl (fun N w' v hN hS hv=>?_)
  rw [hQ]
  exact ⟨fin_bool hv (by rw [B_pos hyes];rfl),hS.chg.none⟩
end Go.Proofs.YthpbefahaghbjaaGreat
namespace Go.Proofs.YthpbefahaghbjaaGreat
open Go Go.Eng
structure TelP where
 (node:Int) (c:ConfP) (key:Int) (s:SlotD) (at':Int)
 deriving DecidableEq
structure VerP where
 (key:Int) (b:BalP) (reg:RegP) (at':Int)
 deriving DecidableEq
def TelP.toD (x:TelP):List Dt:=.int .u8 x.node::(x.c.toD++(.int .u8 x.key::(x.s.toD++[.int .i64 x.at'])))
def VerP.toD (x:VerP):List Dt:=.int .u8 x.key::(x.b.toD++(x.reg.toD++[.int .i64 x.at']))
theorem sz_tel {l:List TelP}:∀ d∈l.map TelP.toD,d.length=21:=fun d hd=>by obtain ⟨x,_,rfl⟩:=List.mem_map.1 hd;rfl
theorem VerP.open {M:Mem} {vs:List Value} {x:VerP} (h:RepL M x.toD vs):∃ rv,vs=.int .u8 x.key::.int .u64 x.b.count::.int .u8 x.b.node::.int .u32 x.b.life::(rv++[.int .i64 x.at'])∧RepL M x.reg.toD rv:=by
 unfold VerP.toD at h
 obtain ⟨_,_,rfl,h0,h⟩:=RepL.cons h
 obtain ⟨bv,_,rfl,h1,h⟩:=h.split
 obtain ⟨rv,_,rfl,h2,h⟩:=h.split
 obtain ⟨_,_,rfl,h3,h⟩:=RepL.cons h
 have hn:=RepL.nil h;subst hn
 rw [RepC.int' h0,RepC.int' h3,BalP.open h1]
 exact ⟨rv,rfl,h2⟩
theorem VerP.shut {M:Mem} {x:VerP} {rv:List Value} (h:RepL M x.reg.toD rv):RepL M x.toD (.int .u8 x.key::.int .u64 x.b.count::.int .u8 x.b.node::.int .u32 x.b.life::(rv++[.int .i64 x.at'])):=by
 unfold VerP.toD
 simp only [RepL]
 refine ⟨_,_,rfl,by simp only [RepC],?_⟩
 refine RepL.append (us:=rv++[.int .i64 x.at']) (vs:=[.int .u64 x.b.count,.int .u8 x.b.node,.int .u32 x.b.life]) ?_ (RepL.append h ?_)
 ·simp only [BalP.toD,RepL,RepC]
  exact ⟨_,_,rfl,rfl,_,_,rfl,rfl,_,_,rfl,rfl,rfl⟩
 ·simp only [RepL,RepC]
  exact ⟨_,_,rfl,rfl,rfl⟩
theorem TelP.open {M:Mem} {vs:List Value} {x:TelP} (h:RepL M x.toD vs):∃ cv sv,vs=.int .u8 x.node::(cv++.int .u8 x.key::(sv++[.int .i64 x.at']))∧RepL M x.c.toD cv∧RepL M x.s.toD sv:=by
 unfold TelP.toD at h
 obtain ⟨_,_,rfl,h0,h⟩:=RepL.cons h
 obtain ⟨cv,_,rfl,h1,h⟩:=h.split
 obtain ⟨_,_,rfl,h2,h⟩:=RepL.cons h
 obtain ⟨sv,_,rfl,h3,h⟩:=h.split
 obtain ⟨_,_,rfl,h4,h⟩:=RepL.cons h
 have hn:=RepL.nil h;subst hn
 rw [RepC.int' h0,RepC.int' h2,RepC.int' h4]
 exact ⟨cv,sv,rfl,h1,h3⟩
structure EntP where
 (key:Int) (b:BalP) (c:ConfP) (reg:RegP) (nodes:Nat) (agreed:Bool)
structure WP where
 (seen:List EntP) (l all:List VerP) (torn:Bool)
def ConfP.mayW (c:ConfP):Prop:=mayC c.c.toNat c.old.toArray c.new.toArray
def ConfP.quoW (c:ConfP) (key:Int) (s:Nat):Prop:=quoC c.c.toNat c.old.toArray c.new.toArray key s
def TelP.cnt (t:TelP):Prop:=t.node<64∧t.key<16∧t.s.has=true∧t.s.acc≠⟨0,0,0⟩∧t.c.mayW
def EntP.at' (e:EntP) (key:Int) (b:BalP):Bool:=decide (e.key=key∧e.b=b)
def WP.pos (s:WP) (key:Int) (b:BalP):Option Nat:=s.seen.findIdx? fun e=>e.at' key b
def WP.zero:WP:=⟨[],[],[],false⟩
open Classical in
noncomputable def WP.told (s:WP) (i:Nat) (e:EntP) (t:TelP):WP :=
 let s1:WP:=⟨s.seen,s.l,s.all,s.torn || B (¬(e.c=t.c∧e.reg=t.s.reg))⟩
 if e.agreed=true then s1 else
 let n:=e.nodes ||| 2 ^ t.node.toNat
 if e.c.quoW t.key n then ⟨s.seen.set i ⟨e.key,e.b,e.c,e.reg,n,true⟩,s.l++[⟨t.key,t.s.acc,e.reg,t.at'⟩],s1.all,s1.torn⟩
 else ⟨s.seen.set i ⟨e.key,e.b,e.c,e.reg,n,false⟩,s.l,s1.all,s1.torn⟩
open Classical in
noncomputable def WP.saw (s:WP) (t:TelP):WP :=
 if ¬t.cnt then s else
 match s.pos t.key t.s.acc with
 | some i=>match s.seen[i]? with
  | some e=>s.told i e t
  | none=>s
 | none=>WP.told ⟨s.seen++[⟨t.key,t.s.acc,t.c,t.s.reg,0,false⟩],s.l,s.all++[⟨t.key,t.s.acc,t.s.reg,t.at'⟩],s.torn⟩ s.seen.length ⟨t.key,t.s.acc,t.c,t.s.reg,0,false⟩ t
end Go.Proofs.YthpbefahaghbjaaGreat
namespace Go.Proofs.YthpbefahaghbjaaGreat
open Go Go.Eng Go.Sort
theorem freshRet_of {P:Program} {fn:Func} {Q:Ending→World→Prop} {W:World} {im:Mem} {D:Nat→Nat→Prop} {Rr:World→Prop} {N0:Nums} {B:SchT} {N:Nums} {rg:List Rg} {w':World} {r n z:Nat} {cs cs':List SV} {v:Value} (hS:Sat (mkE P fn Q W (InR [] []) im D Rr N0 B).toEnv N rg w') (hr:rg[r]?=some ⟨true,cs,none⟩) (h0:0<cs.length) (hp:cs' <+: cs) (hc:∀ c∈cs',∀ (N N':Nums) (v:Value),c.den N=some v→c.den N'=some v)
  (hv:(SV.osl r 0 n z none).den N=some v):FreshRet cs' n z W (.returned v) w':=by
 obtain ⟨p,hpn⟩:∃ p,N[r]?=some p:=⟨_,List.getElem?_eq_getElem (by rw [hS.len];exact (List.getElem?_eq_some_iff.1 hr).1)⟩
 simp only [SV.den,hpn,Num.cap,Nat.add_zero,Nat.sub_zero,Option.some.injEq] at hv
 have hx:=hS.ext r _ p hr hpn rfl
 simp only at hx
 have hl:=hp.length_le
 refine ⟨p.b,p.o,p.x,by rw [←hv],?_,by omega,by omega,fun j c hj=>?_,fun j hj=>hS.room r _ p hr hpn rfl j hj,hS.chg.none⟩
 ·rcases hS.foot r _ p hr hpn rfl with h | h
  ·exact h
  ·exact absurd (h 0 (by omega)) (fun h=>inR_nil h)
 ·obtain ⟨t,rfl⟩:=hp
  have hjl:=(List.getElem?_eq_some_iff.1 hj).1
  obtain ⟨v,h1,h2⟩:=hS.cell r _ p hr hpn j c (by rw [List.getElem?_append_left hjl];exact hj)
  exact ⟨v,hc c (List.mem_of_getElem? hj) _ _ v h1,h2⟩
theorem Sat.addIm {E:Env} {N:Nums} {rg:List Rg} {w:World} (h:Sat E N rg w) {b y x:Nat} {cs:List SV} (h0:0<cs.length) (hcs:∀ (j:Nat) (c:SV),cs[j]?=some c→∃ v,(∀ N,c.den N=some v)∧E.im b (y+j)=some v):Sat E (N++[⟨b,y,x⟩]) (rg++[⟨false,cs,none⟩]) w:=by
 have hle:N.le (N++[⟨b,y,x⟩]):=Nums.le_append _ _
 have hb:b<w.heap.size:=by
  obtain ⟨v,_,h2⟩:=hcs 0 _ (List.getElem?_eq_getElem h0)
  exact World.block_lt_of_cell? _ _ (h.imm _ _ _ h2)
 refine ⟨by simp [h.len],?_,?_,?_,?_,?_,?_,?_,h.imm,?_,?_,h.dlt,h.loc,h.res,h.chg,?_⟩
 ·intro i q hq
  rcases Nat.lt_or_ge i N.length with hi | hi
  ·rw [List.getElem?_append_left hi] at hq;exact h.lt i q hq
  ·rw [List.getElem?_append_right hi] at hq
   have hz:i-N.length=0:=by
    have:=(List.getElem?_eq_some_iff.1 hq).1
    simp at this;omega
   rw [hz] at hq;simp at hq;subst hq;exact hb
 ·intro i g q hg hq j d hj
  rcases get_snoc h.len hg hq with ⟨a,b⟩ | ⟨_,rfl,rfl⟩
  ·obtain ⟨v,h1,h2⟩:=h.cell i g q a b j d hj
   exact ⟨v,SV.den_mono hle d h1,h2⟩
  ·obtain ⟨v,h1,h2⟩:=hcs j d hj
   exact ⟨v,h1 _,h.imm _ _ _ h2⟩
 ·intro i g q hg hq ho
  rcases get_snoc h.len hg hq with ⟨a,b⟩ | ⟨_,rfl,rfl⟩
  ·exact h.ext i g q a b ho
  ·cases ho
 ·intro i g q hg hq ho
  rcases get_snoc h.len hg hq with ⟨a,b⟩ | ⟨_,rfl,rfl⟩
  ·exact h.room i g q a b ho
  ·cases ho
 ·intro i i' g g' q q' hg hq hg' hq' ho hne j hj hb'
  rcases get_snoc h.len hg hq with ⟨a1,a2⟩ | ⟨a0,rfl,rfl⟩
  ·rcases get_snoc h.len hg' hq' with ⟨b1,b2⟩ | ⟨b0,rfl,rfl⟩
   ·exact h.disj i i' g g' q q' a1 a2 b1 b2 ho hne j hj hb'
   ·have hj:j<cs.length:=hj
    obtain ⟨v,_,k2⟩:=hcs j _ (List.getElem?_eq_getElem hj)
    simp only at hb' ⊢
    rcases Nat.lt_or_ge (y+j) q.o with k | k
    ·exact .inl k
    ·rcases Nat.lt_or_ge (y+j) (q.o+q.x) with k3 | k3
     ·have:=h.imd i g q a1 a2 ho (y+j-q.o) (by omega)
      rw [show q.o+(y+j-q.o)=y+j by omega,←hb',k2] at this
      cases this
     ·exact .inr k3
  ·cases ho
 ·intro i g q ob hg hq ho
  rcases get_snoc h.len hg hq with ⟨a,b⟩ | ⟨_,rfl,rfl⟩
  ·obtain ⟨⟨o',k1,k2⟩,k3⟩:=h.obj i g q ob a b ho
   exact ⟨⟨o',Ob.den_mono hle ob k1,k2⟩,k3⟩
  ·simp at ho
 ·intro i i' g g' q q' hg hq hg' hq' ho ho' hne
  rcases get_snoc h.len hg hq with ⟨a1,a2⟩ | ⟨a0,rfl,rfl⟩
  ·rcases get_snoc h.len hg' hq' with ⟨b1,b2⟩ | ⟨b0,rfl,rfl⟩
   ·exact h.odisj i i' g g' q q' a1 a2 b1 b2 ho ho' hne
   ·simp at ho'
  ·simp at ho
 ·intro i g q hg hq ho
  rcases get_snoc h.len hg hq with ⟨a,b⟩ | ⟨_,rfl,rfl⟩
  ·exact h.imd i g q a b ho
  ·cases ho
 ·intro i g q hg hq ho
  rcases get_snoc h.len hg hq with ⟨a,b⟩ | ⟨_,rfl,rfl⟩
  ·exact h.dd i g q a b ho
  ·cases ho
 ·intro i g q hg hq ho
  rcases get_snoc h.len hg hq with ⟨a,b⟩ | ⟨_,rfl,rfl⟩
  ·exact h.foot i g q a b ho
  ·cases ho
theorem X.addIm {E:Ctx} {k:List It} {f:Fr} (f':Fr) {rg:List Rg} (b y:Nat) {cs:List SV} (h0:0<cs.length) (hc:∀ (j:Nat) (c:SV),cs[j]?=some c→∃ v,(∀ N,c.den N=some v)∧E.im b (y+j)=some v)
  (hs:∀ N:Nums,N.length=rg.length→Sh N (N++[⟨b,y,cs.length⟩]) f f') (h:X E k ⟨f',rg++[⟨false,cs,none⟩]⟩):X E k ⟨f,rg⟩:=by
 refine X.conv fun N a w hN hf hS=>?_
 exact ⟨E,⟨f',rg++[⟨false,cs,none⟩]⟩,rfl,rfl,rfl,rfl,⟨N++[⟨b,y,cs.length⟩],hN.trans (Nums.le_append _ _),hf.sh (hs N hS.len),Sat.addIm hS h0 hc⟩,h⟩
theorem ofL_one (x key:Int):ofL #[x] key=[x]:=by
 have h1:ofL #[x] key≠[]:=ofL_pos (by simp)
 have h2:∀ y∈ofL #[x] key,y=x:=fun y hy=>by simpa using ofL_sub hy
 have h3:=ofL_lt #[x] key
 cases hl:ofL #[x] key with
 | nil=>exact absurd hl h1
 | cons a t =>
  rw [hl] at h2 h3
  have ha:=h2 a (by simp)
  cases t with
  | nil=>rw [ha]
  | cons b t =>
   have hb:=h2 b (by simp)
   have:=(List.pairwise_cons.1 h3).1 b (by simp)
   omega
theorem mayC_one:mayC 0 #[] #[3]:=⟨by simp,fun i hi=>by
 have:i=0:=by simp at hi;omega
 subst this
 exact ⟨by decide,fun h=>absurd h (by decide)⟩,by simp⟩
theorem quoC_8:quoC 0 #[] #[3] 1 8:=⟨mayC_one,by rw [ofL_one];unfold maj;decide,fun h=>absurd h (by decide)⟩
theorem maj_or {l:List Int} {s:Nat} (h:maj l s) (m:Nat):maj l (s ||| m):=by
 have:cntN l s≤cntN l (s ||| m):=List.countP_mono_left fun x _ h=>by
  rw [Nat.testBit_or,h];rfl
 unfold maj at h ⊢
 omega
theorem quoC_or {C:Nat} {o n:Array Int} {key:Int} {s:Nat} (h:quoC C o n key s) (m:Nat):quoC C o n key (s ||| m):=⟨h.1,maj_or h.2.1 m,fun hc=>maj_or (h.2.2 hc) m⟩
end Go.Proofs.YthpbefahaghbjaaGreat
namespace Go.Proofs.YthpbefahaghbjaaGreat
open Go Go.Eng
def TelP.hit (t:TelP) (key:Int) (b:BalP):Prop:=t.cnt∧t.key=key∧t.s.acc=b
noncomputable def firstT (l:List TelP) (key:Int) (b:BalP):Option TelP:=l.find? fun t=>B (t.hit key b)
open Classical in
noncomputable def nodesT (l:List TelP) (key:Int) (b:BalP):Nat:=l.foldl (fun n t=>if t.hit key b then n ||| 2 ^ t.node.toNat else n) 0
def tornT (l:List TelP):Prop:=∃ t∈l,∃ f,t.cnt∧firstT l t.key t.s.acc=some f∧¬(f.c=t.c∧f.s.reg=t.s.reg)
theorem firstT_add (l:List TelP) (t:TelP) (key:Int) (b:BalP):firstT (l++[t]) key b=(firstT l key b).or (if B (t.hit key b) then some t else none):=by
 unfold firstT
 rw [List.find?_append]
 congr 1
 simp only [List.find?_cons,List.find?_nil]
 cases B (t.hit key b)<;>rfl
open Classical in
theorem nodesT_add (l:List TelP) (t:TelP) (key:Int) (b:BalP):nodesT (l++[t]) key b=if t.hit key b then nodesT l key b ||| 2 ^ t.node.toNat else nodesT l key b:=by
 unfold nodesT
 rw [List.foldl_append]
 rfl
theorem firstT_none {l:List TelP} {key:Int} {b:BalP}:firstT l key b=none↔∀ t∈l,¬t.hit key b:=by
 unfold firstT
 rw [List.find?_eq_none]
 exact ⟨fun h t ht hh=>h t ht (B_pos hh),fun h t ht hh=>h t ht (B_iff.1 hh)⟩
theorem firstT_some {l:List TelP} {key:Int} {b:BalP} {f:TelP} (h:firstT l key b=some f):f∈l∧f.hit key b:=by
 unfold firstT at h
 have h2:B (f.hit key b)=true:=List.find?_some (p:=fun t:TelP=>B (t.hit key b)) h
 exact ⟨List.mem_of_find?_eq_some h,B_iff.1 h2⟩
theorem firstT_hit {l:List TelP} {key:Int} {b:BalP} {t:TelP} (h:t∈l) (hh:t.hit key b):∃ f,firstT l key b=some f:=by
 cases hf:firstT l key b with
 | none=>exact absurd hh (firstT_none.1 hf t h)
 | some f=>exact ⟨f,rfl⟩
theorem nodesT_none {l:List TelP} {key:Int} {b:BalP} (h:firstT l key b=none):nodesT l key b=0:=by
 have h0:∀ (l:List TelP) (n:Nat),(∀ t∈l,¬t.hit key b)→l.foldl (fun n t=>@ite _ (t.hit key b) (Classical.propDecidable _) (n ||| 2 ^ t.node.toNat) n) n=n:=fun l=>by
  induction l with
  | nil=>intro n _;rfl
  | cons t l ih =>
   intro n h
   rw [List.foldl_cons,if_neg (h t (List.mem_cons_self ..))]
   exact ih n fun u hu=>h u (List.mem_cons_of_mem _ hu)
 exact h0 l 0 (firstT_none.1 h)
theorem nodesT_bit {l:List TelP} {key:Int} {b:BalP} (j:Nat):(nodesT l key b).testBit j=true↔∃ t∈l,t.hit key b∧t.node.toNat=j:=by
 have h:∀ (l:List TelP) (n:Nat),(l.foldl (fun n t=>@ite _ (t.hit key b) (Classical.propDecidable _) (n ||| 2 ^ t.node.toNat) n) n).testBit j=true↔n.testBit j=true∨∃ t∈l,t.hit key b∧t.node.toNat=j:=fun l=>by
  induction l with
  | nil=>intro n;simp
  | cons t l ih =>
   intro n
   rw [List.foldl_cons,ih]
   by_cases ht:t.hit key b
   ·rw [if_pos ht,Nat.testBit_or,Nat.testBit_two_pow]
    simp only [Bool.or_eq_true,decide_eq_true_eq,List.mem_cons,exists_eq_or_imp]
    constructor
    ·rintro ((h | h) | h)
     ·exact .inl h
     ·exact .inr (.inl ⟨ht,h⟩)
     ·exact .inr (.inr h)
    ·rintro (h | ⟨_,h⟩ | h)
     ·exact .inl (.inl h)
     ·exact .inl (.inr h)
     ·exact .inr h
   ·rw [if_neg ht]
    simp only [List.mem_cons,exists_eq_or_imp]
    constructor
    ·rintro (h | h)
     ·exact .inl h
     ·exact .inr (.inr h)
    ·rintro (h | ⟨h,_⟩ | h)
     ·exact .inl h
     ·exact absurd h ht
     ·exact .inr h
 have:=h l 0
 unfold nodesT
 rw [this]
 simp
theorem nodesT_perm {l m:List TelP} (h:∀ t,t∈l↔t∈m) (key:Int) (b:BalP):nodesT l key b=nodesT m key b:=by
 apply Nat.eq_of_testBit_eq
 intro j
 rw [Bool.eq_iff_iff,nodesT_bit,nodesT_bit]
 exact ⟨fun ⟨t,h1,h2⟩=>⟨t,(h t).1 h1,h2⟩,fun ⟨t,h1,h2⟩=>⟨t,(h t).2 h1,h2⟩⟩
theorem quoW_or {c:ConfP} {key:Int} {s:Nat} (h:c.quoW key s) (m:Nat):c.quoW key (s ||| m):=quoC_or h m
theorem quoW_zero {c:ConfP} {key:Int}:¬c.quoW key 0:=fun h=>by
 have h:=h.2.1
 unfold maj cntN at h
 simp at h
structure WI (F:Int→BalP→Option TelP) (Nd:Int→BalP→Nat) (T:Prop) (A:List Int) (s:WP):Prop where
 no:∀ key b,F key b=none→s.pos key b=none
 yes:∀ key b f,F key b=some f→∃ i e,s.pos key b=some i∧s.seen[i]?=some e∧e.c=f.c∧e.reg=f.s.reg∧e.key=key∧e.b=b∧(e.agreed=true↔f.c.quoW key (Nd key b))∧(e.agreed=false→e.nodes=Nd key b)
 mem:∀ v∈s.l,∃ f,F v.key v.b=some f∧v.reg=f.s.reg∧f.c.quoW v.key (Nd v.key v.b)
 all:∀ key b f,F key b=some f→f.c.quoW key (Nd key b)→∃ v∈s.l,v.key=key∧v.b=b
 nd:s.l.Pairwise fun v w=>¬(v.key=w.key∧v.b=w.b)
 at':∀ v∈s.l,v.at'∈A
 torn:s.torn=true↔T
def WInv (l:List TelP) (s:WP):Prop:=WI (firstT l) (nodesT l) (tornT l) (l.map (·.at')) s
theorem wInv_zero:WInv [] WP.zero:=by
 show WI (firstT []) (nodesT []) (tornT []) [] WP.zero
 refine ⟨fun _ _ _=>rfl,fun key b f h=>(by cases h),fun v h=>(by cases h),fun key b f h=>(by cases h),List.Pairwise.nil,fun v h=>(by cases h),⟨fun h=>(by cases h),fun ⟨t,h,_⟩=>(by cases h)⟩⟩
open Classical in
noncomputable def updF {α:Type} (F:Int→BalP→α) (key:Int) (b:BalP) (x:α):Int→BalP→α:=fun k c=>if k=key∧c=b then x else F k c
theorem updF_same {α:Type} {F:Int→BalP→α} {key:Int} {b:BalP} {x:α}:updF F key b x key b=x:=if_pos ⟨rfl,rfl⟩
theorem updF_ne {α:Type} {F:Int→BalP→α} {key k:Int} {b c:BalP} {x:α} (h:¬(k=key∧c=b)):updF F key b x k c=F k c:=if_neg h
theorem EntP.at_iff {e:EntP} {key:Int} {b:BalP}:e.at' key b=true↔e.key=key∧e.b=b:=by
 unfold EntP.at'
 simp
theorem pos_set {s s':WP} {i:Nat} {e e':EntP} (he:s.seen[i]?=some e) (hk:e'.key=e.key∧e'.b=e.b) (hs:s'.seen=s.seen.set i e') (key:Int) (b:BalP):s'.pos key b=s.pos key b:=by
 unfold WP.pos
 rw [hs]
 have hi:=(List.getElem?_eq_some_iff.1 he)
 have:∀ (l:List EntP) (i:Nat),l[i]?=some e→(l.set i e').findIdx? (fun e=>e.at' key b)=l.findIdx? (fun e=>e.at' key b):=fun l=>by
  induction l with
  | nil=>intro i h;simp at h
  | cons x l ih =>
   intro i h
   cases i with
   | zero =>
    simp only [List.getElem?_cons_zero,Option.some.injEq] at h
    subst h
    have h1:e'.at' key b=x.at' key b:=by unfold EntP.at';rw [hk.1,hk.2]
    simp only [List.set_cons_zero,List.findIdx?_cons,h1]
   | succ i =>
    simp only [List.getElem?_cons_succ] at h
    simp only [List.set_cons_succ,List.findIdx?_cons,ih i h]
 exact this _ _ he
theorem pos_add {s s':WP} {e:EntP} (hs:s'.seen=s.seen++[e]) (key:Int) (b:BalP):s'.pos key b=(s.pos key b).or (if e.at' key b then some s.seen.length else none):=by
 unfold WP.pos
 rw [hs,List.findIdx?_append]
 congr 1
 cases h:e.at' key b<;>simp [List.findIdx?_cons,h]
theorem WI.new {F:Int→BalP→Option TelP} {Nd:Int→BalP→Nat} {T:Prop} {A:List Int} {s:WP} (h:WI F Nd T A s) (t:TelP) (hF:F t.key t.s.acc=none) (hN:Nd t.key t.s.acc=0) (a:List VerP) :
  WI (updF F t.key t.s.acc (some t)) Nd T A ⟨s.seen++[⟨t.key,t.s.acc,t.c,t.s.reg,0,false⟩],s.l,a,s.torn⟩:=by
 have hat:∀ key b,EntP.at' ⟨t.key,t.s.acc,t.c,t.s.reg,0,false⟩ key b=true↔key=t.key∧b=t.s.acc:=fun key b=>by
  rw [EntP.at_iff];exact ⟨fun ⟨h1,h2⟩=>⟨h1.symm,h2.symm⟩,fun ⟨h1,h2⟩=>⟨h1.symm,h2.symm⟩⟩
 have hp:=pos_add (s:=s) (s':=⟨s.seen++[⟨t.key,t.s.acc,t.c,t.s.reg,0,false⟩],s.l,a,s.torn⟩) rfl
 have hv:∀ v∈s.l,¬(v.key=t.key∧v.b=t.s.acc):=fun v hv ⟨e1,e2⟩=>by
  obtain ⟨f,h1,_⟩:=h.mem v hv
  rw [e1,e2,hF] at h1;cases h1
 refine ⟨fun key b hk=>?_,fun key b f hk=>?_,fun v hm=>?_,fun key b f hk hq=>?_,h.nd,h.at',h.torn⟩
 ·by_cases he:key=t.key∧b=t.s.acc
  ·obtain ⟨rfl,rfl⟩:=he
   rw [updF_same] at hk;cases hk
  ·rw [updF_ne he] at hk
   rw [hp,h.no key b hk,if_neg (fun h'=>he ((hat _ _).1 h'))]
   rfl
 ·by_cases he:key=t.key∧b=t.s.acc
  ·obtain ⟨rfl,rfl⟩:=he
   rw [updF_same] at hk;cases hk
   refine ⟨s.seen.length,⟨t.key,t.s.acc,t.c,t.s.reg,0,false⟩,by rw [hp,h.no _ _ hF,if_pos ((hat _ _).2 ⟨rfl,rfl⟩)];rfl,by simp,rfl,rfl,rfl,rfl,?_,fun _=>hN.symm⟩
   rw [hN]
   exact ⟨fun h'=>(by cases h'),fun h'=>absurd h' quoW_zero⟩
  ·rw [updF_ne he] at hk
   obtain ⟨i,e,k1,k2,k3⟩:=h.yes key b f hk
   refine ⟨i,e,by rw [hp,k1];rfl,?_,k3⟩
   show (s.seen++_)[i]?=_
   rw [List.getElem?_append_left (List.getElem?_eq_some_iff.1 k2).1]
   exact k2
 ·rw [updF_ne (hv v hm)]
  exact h.mem v hm
 ·by_cases he:key=t.key∧b=t.s.acc
  ·obtain ⟨rfl,rfl⟩:=he
   rw [hN] at hq
   exact absurd hq quoW_zero
  ·rw [updF_ne he] at hk
   exact h.all key b f hk hq
theorem WI.told {F:Int→BalP→Option TelP} {Nd:Int→BalP→Nat} {T:Prop} {A:List Int} {s:WP} (h:WI F Nd T A s) (t f:TelP) (i:Nat) (e:EntP) (hF:F t.key t.s.acc=some f) (hi:s.pos t.key t.s.acc=some i) (he:s.seen[i]?=some e) :
  WI F (updF Nd t.key t.s.acc (Nd t.key t.s.acc ||| 2 ^ t.node.toNat)) (T∨¬(f.c=t.c∧f.s.reg=t.s.reg)) (A++[t.at']) (s.told i e t):=by
 obtain ⟨i',e',k1,k2,k3,k4,k5,k6,k7,k8⟩:=h.yes _ _ _ hF
 rw [hi] at k1;cases k1
 rw [he] at k2;cases k2
 obtain ⟨N',hN'⟩:∃ N',N'=updF Nd t.key t.s.acc (Nd t.key t.s.acc ||| 2 ^ t.node.toNat):=⟨_,rfl⟩
 have n1:N' t.key t.s.acc=Nd t.key t.s.acc ||| 2 ^ t.node.toNat:=by rw [hN'];exact updF_same
 have n2:∀ key b,¬(key=t.key∧b=t.s.acc)→N' key b=Nd key b:=fun key b hne=>by rw [hN'];exact updF_ne hne
 rw [←hN']
 have ht:(s.torn || B (¬(e.c=t.c∧e.reg=t.s.reg)))=true↔T∨¬(f.c=t.c∧f.s.reg=t.s.reg):=by
  rw [Bool.or_eq_true,h.torn,B_iff,k3,k4]
 have hat:∀ v∈s.l,v.at'∈A++[t.at']:=fun v hv=>List.mem_append_left _ (h.at' v hv)
 unfold WP.told
 simp only
 by_cases ha:e.agreed=true
 ·rw [if_pos ha]
  have hq:=k7.1 ha
  refine ⟨h.no,fun key b f' hk=>?_,fun v hm=>?_,fun key b f' hk hq'=>?_,h.nd,hat,ht⟩
  ·obtain ⟨j,e2,m1,m2,m3,m4,m5,m6,m7,m8⟩:=h.yes key b f' hk
   by_cases hne:key=t.key∧b=t.s.acc
   ·obtain ⟨rfl,rfl⟩:=hne
    rw [hF] at hk;cases hk
    rw [hi] at m1;cases m1
    rw [he] at m2;cases m2
    exact ⟨i,e,hi,he,m3,m4,m5,m6,⟨fun _=>by rw [n1];exact quoW_or hq _,fun _=>ha⟩,fun h'=>by rw [ha] at h';cases h'⟩
   ·rw [n2 key b hne]
    exact ⟨j,e2,m1,m2,m3,m4,m5,m6,m7,m8⟩
  ·obtain ⟨f',m1,m2,m3⟩:=h.mem v hm
   refine ⟨f',m1,m2,?_⟩
   by_cases hne:v.key=t.key∧v.b=t.s.acc
   ·rw [hne.1,hne.2] at m3 ⊢;rw [n1];exact quoW_or m3 _
   ·rw [n2 _ _ hne];exact m3
  ·by_cases hne:key=t.key∧b=t.s.acc
   ·obtain ⟨rfl,rfl⟩:=hne
    rw [hF] at hk;cases hk
    exact h.all _ _ _ hF hq
   ·rw [n2 _ _ hne] at hq'
    exact h.all _ _ _ hk hq'
 ·rw [if_neg ha]
  have ha':e.agreed=false:=by simpa using ha
  have hnq:¬f.c.quoW t.key (Nd t.key t.s.acc):=fun h'=>ha (k7.2 h')
  have hnv:∀ v∈s.l,¬(v.key=t.key∧v.b=t.s.acc):=fun v hv ⟨e1,e2⟩=>by
   obtain ⟨f',m1,m2,m3⟩:=h.mem v hv
   rw [e1,e2,hF] at m1;cases m1
   rw [e1,e2] at m3
   exact hnq m3
  have hil:i<s.seen.length:=(List.getElem?_eq_some_iff.1 he).1
  have hnd:(e.nodes ||| 2 ^ t.node.toNat)=N' t.key t.s.acc:=by rw [n1,k8 ha']
  have hyes:∀ (ag:Bool) (l':List VerP) (tb:Bool),(ag=true↔f.c.quoW t.key (N' t.key t.s.acc))→∀ key b f',F key b=some f'→∃ i2 e2,WP.pos ⟨s.seen.set i ⟨e.key,e.b,e.c,e.reg,e.nodes ||| 2 ^ t.node.toNat,ag⟩,l',s.all,tb⟩ key b=some i2∧(s.seen.set i ⟨e.key,e.b,e.c,e.reg,e.nodes ||| 2 ^ t.node.toNat,ag⟩)[i2]?=some e2∧e2.c=f'.c∧e2.reg=f'.s.reg∧e2.key=key∧e2.b=b∧(e2.agreed=true↔f'.c.quoW key (N' key b))∧(e2.agreed=false→e2.nodes=N' key b):=fun ag l' tb hag key b f' hk=>by
   rw [pos_set (s:=s) (e:=e) (e':=⟨e.key,e.b,e.c,e.reg,e.nodes ||| 2 ^ t.node.toNat,ag⟩) he ⟨rfl,rfl⟩ rfl]
   by_cases hne:key=t.key∧b=t.s.acc
   ·obtain ⟨rfl,rfl⟩:=hne
    rw [hF] at hk;cases hk
    exact ⟨i,⟨e.key,e.b,e.c,e.reg,e.nodes ||| 2 ^ t.node.toNat,ag⟩,hi,by rw [List.getElem?_set,if_pos rfl,if_pos hil],k3,k4,k5,k6,hag,fun _=>hnd⟩
   ·obtain ⟨j,e2,m1,m2,m3,m4,m5,m6,m7⟩:=h.yes key b f' hk
    have hij:i≠j:=fun hij=>by
     subst hij
     rw [he] at m2;cases m2
     exact hne ⟨m5 ▸ k5,m6 ▸ k6⟩
    refine ⟨j,e2,m1,by rw [List.getElem?_set,if_neg hij];exact m2,m3,m4,m5,m6,?_⟩
    rw [n2 _ _ hne];exact m7
  have hno:∀ (ag:Bool) (l':List VerP) (tb:Bool),∀ key b,F key b=none→WP.pos ⟨s.seen.set i ⟨e.key,e.b,e.c,e.reg,e.nodes ||| 2 ^ t.node.toNat,ag⟩,l',s.all,tb⟩ key b=none:=fun ag l' tb key b hk=>by
   rw [pos_set (s:=s) (e:=e) (e':=⟨e.key,e.b,e.c,e.reg,e.nodes ||| 2 ^ t.node.toNat,ag⟩) he ⟨rfl,rfl⟩ rfl]
   exact h.no key b hk
  have hmem:∀ v∈s.l,∃ f,F v.key v.b=some f∧v.reg=f.s.reg∧f.c.quoW v.key (N' v.key v.b):=fun v hm=>by
   rw [n2 _ _ (hnv v hm)]
   exact h.mem v hm
  by_cases hq:e.c.quoW t.key (e.nodes ||| 2 ^ t.node.toNat)
  ·rw [if_pos hq]
   rw [k3,hnd] at hq
   refine ⟨hno true _ _,hyes true _ _ ⟨fun _=>hq,fun _=>rfl⟩,fun v hm=>?_,fun key b f' hk hq'=>?_,?_,fun v hm=>?_,ht⟩
   ·rcases List.mem_append.1 hm with h' | h'
    ·exact hmem v h'
    ·simp only [List.mem_singleton] at h';subst h'
     exact ⟨f,hF,k4,hq⟩
   ·by_cases hne:key=t.key∧b=t.s.acc
    ·exact ⟨_,List.mem_append_right _ (List.mem_singleton.2 rfl),hne.1.symm,hne.2.symm⟩
    ·rw [n2 _ _ hne] at hq'
     obtain ⟨v,m1,m2⟩:=h.all key b f' hk hq'
     exact ⟨v,List.mem_append_left _ m1,m2⟩
   ·refine List.pairwise_append.2 ⟨h.nd,List.pairwise_singleton _ _,fun v hv w hw=>?_⟩
    simp only [List.mem_singleton] at hw;subst hw
    exact hnv v hv
   ·rcases List.mem_append.1 hm with h' | h'
    ·exact hat v h'
    ·simp only [List.mem_singleton] at h';subst h'
     exact List.mem_append_right _ (List.mem_singleton.2 rfl)
  ·rw [if_neg hq]
   rw [k3,hnd] at hq
   refine ⟨hno false _ _,hyes false _ _ ⟨fun h'=>(by cases h'),fun h'=>absurd h' hq⟩,hmem,fun key b f' hk hq'=>?_,h.nd,hat,ht⟩
   by_cases hne:key=t.key∧b=t.s.acc
   ·obtain ⟨rfl,rfl⟩:=hne
    rw [hF] at hk;cases hk
    exact absurd hq' hq
   ·rw [n2 _ _ hne] at hq'
    exact h.all key b f' hk hq'
theorem firstT_upd {l:List TelP} {t:TelP} (hc:t.cnt):firstT (l++[t])=updF (firstT l) t.key t.s.acc ((firstT l t.key t.s.acc).or (some t)):=by
 funext key b
 rw [firstT_add]
 by_cases he:key=t.key∧b=t.s.acc
 ·obtain ⟨rfl,rfl⟩:=he
  rw [updF_same,B_pos ⟨hc,rfl,rfl⟩]
  rfl
 ·rw [updF_ne he,B_neg fun h:t.hit key b=>he ⟨h.2.1.symm,h.2.2.symm⟩]
  simp
theorem nodesT_upd {l:List TelP} {t:TelP} (hc:t.cnt):nodesT (l++[t])=updF (nodesT l) t.key t.s.acc (nodesT l t.key t.s.acc ||| 2 ^ t.node.toNat):=by
 funext key b
 rw [nodesT_add]
 by_cases he:key=t.key∧b=t.s.acc
 ·obtain ⟨rfl,rfl⟩:=he
  rw [updF_same,if_pos ⟨hc,rfl,rfl⟩]
 ·rw [updF_ne he,if_neg fun h:t.hit key b=>he ⟨h.2.1.symm,h.2.2.symm⟩]
theorem updF_id {α:Type} {F:Int→BalP→α} {key:Int} {b:BalP} {x:α} (h:F key b=x):updF F key b x=F:=by
 funext k c
 by_cases he:k=key∧c=b
 ·obtain ⟨rfl,rfl⟩:=he
  rw [updF_same,h]
 ·exact updF_ne he
theorem firstT_skip {l:List TelP} {t:TelP} (hc:¬t.cnt):firstT (l++[t])=firstT l:=by
 funext key b
 rw [firstT_add,B_neg fun h:t.hit key b=>hc h.1]
 simp
theorem nodesT_skip {l:List TelP} {t:TelP} (hc:¬t.cnt):nodesT (l++[t])=nodesT l:=by
 funext key b
 rw [nodesT_add,if_neg fun h:t.hit key b=>hc h.1]
theorem tornT_skip {l:List TelP} {t:TelP} (hc:¬t.cnt):tornT (l++[t])↔tornT l:=by
 unfold tornT
 rw [firstT_skip hc]
 constructor
 ·rintro ⟨u,hu,f,h1,h2⟩
  rcases List.mem_append.1 hu with h | h
  ·exact ⟨u,h,f,h1,h2⟩
  ·simp only [List.mem_singleton] at h;subst h
   exact absurd h1 hc
 ·rintro ⟨u,hu,f,h1,h2⟩
  exact ⟨u,List.mem_append_left _ hu,f,h1,h2⟩
theorem tornT_upd {l:List TelP} {t f:TelP} (hc:t.cnt) (hf:firstT (l++[t]) t.key t.s.acc=some f):tornT (l++[t])↔(tornT l∨¬(f.c=t.c∧f.s.reg=t.s.reg)):=by
 have hk:∀ u∈l,u.cnt→firstT (l++[t]) u.key u.s.acc=firstT l u.key u.s.acc:=fun u hu hcu=>by
  obtain ⟨g,hg⟩:=firstT_hit hu ⟨hcu,rfl,rfl⟩
  rw [firstT_add,hg];rfl
 constructor
 ·rintro ⟨u,hu,g,h1,h2,h3⟩
  rcases List.mem_append.1 hu with h | h
  ·rw [hk u h h1] at h2
   exact .inl ⟨u,h,g,h1,h2,h3⟩
  ·simp only [List.mem_singleton] at h;subst h
   rw [hf] at h2;cases h2
   exact .inr h3
 ·rintro (⟨u,hu,g,h1,h2,h3⟩ | h)
  ·exact ⟨u,List.mem_append_left _ hu,g,h1,by rw [hk u hu h1];exact h2,h3⟩
  ·exact ⟨t,List.mem_append_right _ (List.mem_singleton.2 rfl),f,hc,hf,h⟩
theorem WInv.saw {l:List TelP} {s:WP} (h:WInv l s) (t:TelP):WInv (l++[t]) (s.saw t):=by
 unfold WInv at h ⊢
 rw [List.map_append,List.map_singleton]
 by_cases hc:t.cnt
 ·unfold WP.saw
  rw [if_neg (not_not_intro hc)]
  cases hf:firstT l t.key t.s.acc with
  | none =>
   have hfn:firstT (l++[t])=updF (firstT l) t.key t.s.acc (some t):=by rw [firstT_upd hc,hf];rfl
   have h1:=h.new t hf (nodesT_none hf) (s.all++[⟨t.key,t.s.acc,t.s.reg,t.at'⟩])
   have hp:s.pos t.key t.s.acc=none:=h.no _ _ hf
   rw [hp]
   simp only
   have hpp:WP.pos ⟨s.seen++[⟨t.key,t.s.acc,t.c,t.s.reg,0,false⟩],s.l,s.all++[⟨t.key,t.s.acc,t.s.reg,t.at'⟩],s.torn⟩ t.key t.s.acc=some s.seen.length:=by
    rw [pos_add (s:=s) rfl,hp,if_pos (EntP.at_iff.2 ⟨rfl,rfl⟩)];rfl
   have h2:=h1.told t t s.seen.length ⟨t.key,t.s.acc,t.c,t.s.reg,0,false⟩ updF_same hpp (by simp)
   rw [←hfn,←nodesT_upd hc] at h2
   exact ⟨h2.no,h2.yes,h2.mem,h2.all,h2.nd,h2.at',h2.torn.trans (tornT_upd hc (by rw [hfn];exact updF_same)).symm⟩
  | some f =>
   have hfn:firstT (l++[t])=firstT l:=by rw [firstT_upd hc,hf];exact updF_id hf
   obtain ⟨i,e,k1,k2,_⟩:=h.yes _ _ _ hf
   rw [k1]
   simp only [k2]
   have h2:=h.told t f i e hf k1 k2
   rw [←nodesT_upd hc,←hfn] at h2
   exact ⟨h2.no,h2.yes,h2.mem,h2.all,h2.nd,h2.at',h2.torn.trans (tornT_upd hc (by rw [hfn];exact hf)).symm⟩
 ·unfold WP.saw
  rw [if_pos hc,firstT_skip hc,nodesT_skip hc]
  exact ⟨h.no,h.yes,h.mem,h.all,h.nd,fun v hv=>List.mem_append_left _ (h.at' v hv),h.torn.trans (tornT_skip hc).symm⟩
theorem wInv_all (l:List TelP):WInv l (l.foldl WP.saw WP.zero):=by
 have h:∀ (l m:List TelP) (s:WP),WInv m s→WInv (m++l) (l.foldl WP.saw s):=fun l=>by
  induction l with
  | nil=>intro m s h;rw [List.append_nil];exact h
  | cons t l ih =>
   intro m s h
   have:=ih (m++[t]) (s.saw t) (h.saw t)
   rw [List.append_assoc] at this
   exact this
 exact h l [] WP.zero wInv_zero
theorem tornT_iff {l:List TelP}:tornT l↔∃ t∈l,∃ u∈l,t.cnt∧u.cnt∧u.key=t.key∧u.s.acc=t.s.acc∧¬(u.c=t.c∧u.s.reg=t.s.reg):=by
 constructor
 ·rintro ⟨t,h1,f,h2,h3,h4⟩
  obtain ⟨h5,h6,h7,h8⟩:=firstT_some h3
  exact ⟨t,h1,f,h5,h2,h6,h7,h8,h4⟩
 ·rintro ⟨t,h1,u,h2,h3,h4,h5,h6,h7⟩
  obtain ⟨f,hf⟩:=firstT_hit h1 ⟨h3,rfl,rfl⟩
  have hf':firstT l u.key u.s.acc=some f:=by rw [h5,h6];exact hf
  by_cases hft:f.c=t.c∧f.s.reg=t.s.reg
  ·by_cases hfu:f.c=u.c∧f.s.reg=u.s.reg
   ·exact absurd ⟨hfu.1.symm.trans hft.1,hfu.2.symm.trans hft.2⟩ h7
   ·exact ⟨u,h2,f,h4,hf',hfu⟩
  ·exact ⟨t,h1,f,h3,hf,hft⟩
theorem tornT_perm {l m:List TelP} (h:∀ t,t∈l↔t∈m):tornT l↔tornT m:=by
 rw [tornT_iff,tornT_iff]
 exact ⟨fun ⟨t,h1,u,h2,h3⟩=>⟨t,(h t).1 h1,u,(h u).1 h2,h3⟩,fun ⟨t,h1,u,h2,h3⟩=>⟨t,(h t).2 h1,u,(h u).2 h2,h3⟩⟩
theorem wInv_sub {l m:List TelP} {s s':WP} (h:∀ t,t∈l↔t∈m) (h0:∀ t∈l,t.at'=0) (h1:WInv l s) (h2:WInv m s') (ht:¬tornT l):∀ v∈s.l,v∈s'.l:=fun v hv=>by
 obtain ⟨f,k1,k2,k3⟩:=h1.mem v hv
 obtain ⟨k4,k5⟩:=firstT_some k1
 obtain ⟨g,hg⟩:=firstT_hit ((h f).1 k4) k5
 obtain ⟨k6,k7⟩:=firstT_some hg
 have hfg:g.c=f.c∧g.s.reg=f.s.reg:=by
  refine Classical.byContradiction fun hn=>ht (tornT_iff.2 ⟨f,k4,g,(h g).2 k6,k5.1,k7.1,k7.2.1.trans k5.2.1.symm,k7.2.2.trans k5.2.2.symm,hn⟩)
 rw [nodesT_perm h,←hfg.1] at k3
 obtain ⟨u,u1,u2,u3⟩:=h2.all _ _ _ hg k3
 obtain ⟨g',u4,u5,_⟩:=h2.mem u u1
 rw [u2,u3,hg] at u4;cases u4
 have a1:v.at'=0:=by
  obtain ⟨t,a1,a2⟩:=List.mem_map.1 (h1.at' v hv)
  rw [←a2];exact h0 t a1
 have a2:u.at'=0:=by
  obtain ⟨t,a1,a2⟩:=List.mem_map.1 (h2.at' u u1)
  rw [←a2];exact h0 t ((h t).2 a1)
 have:u=v:=by
  obtain ⟨uk,ub,ur,ua⟩:=u
  obtain ⟨vk,vb,vr,va⟩:=v
  simp only at u2 u3 u5 a1 a2 k2
  subst u2 u3 u5 a1 a2
  rw [k2,hfg.2]
 rw [←this];exact u1
theorem pair_nodup {l:List VerP} (h:l.Pairwise fun v w=>¬(v.key=w.key∧v.b=w.b)):l.Nodup:=h.imp fun hn he=>hn ⟨by rw [he],by rw [he]⟩
theorem wInv_perm {l m:List TelP} {s s':WP} (h:∀ t,t∈l↔t∈m) (h0:∀ t∈l,t.at'=0) (h1:WInv l s) (h2:WInv m s') (ht:¬tornT l):s.l.Perm s'.l:=by
 refine (List.perm_ext_iff_of_nodup (pair_nodup h1.nd) (pair_nodup h2.nd)).2 fun v=>⟨wInv_sub h h0 h1 h2 ht v,wInv_sub (fun t=>(h t).symm) (fun t ht'=>h0 t ((h t).2 ht')) h2 h1 (fun h'=>ht ((tornT_perm h).2 h')) v⟩
end Go.Proofs.YthpbefahaghbjaaGreat
namespace Go.Eng
open Go
structure Ef where
 r:List Rg→SV
 sets:List (Nat × Rg)
 news:List Rg
def setsE:List (Nat × Rg)→List Rg→List Rg
 | [],rg=>rg
 | (r,g)::l,rg=>setsE l (rg.set r g)
def snoc (rg:List Rg):List Rg→List Rg
 | []=>rg
 | g::l=>rg++(g::l)
def fsts:List (Nat × Rg)→List Nat
 | []=>[]
 | (r,_)::l=>r::fsts l
def Ef.up (e:Ef) (rg:List Rg):List Rg:=snoc (setsE e.sets rg) e.news
def Ef.ks (e:Ef):List Nat:=fsts e.sets
theorem snoc_eq (rg l:List Rg):snoc rg l=rg++l:=by cases l<;>simp [snoc]
theorem setsE_length:∀ (l:List (Nat × Rg)) (rg:List Rg),(setsE l rg).length=rg.length
 | [],_=>rfl
 | (r,g)::l,rg=>by simp [setsE,setsE_length l]
theorem setsE_get:∀ (l:List (Nat × Rg)) (rg:List Rg) (r:Nat),memN (fsts l) r=false→(setsE l rg)[r]?=rg[r]?
 | [],_,_,_=>rfl
 | (q,g)::l,rg,r,h=>by
  simp only [fsts,memN,Bool.or_eq_false_iff] at h
  have hne:q≠r:=fun e=>by subst e;simp at h
  rw [setsE,setsE_get l _ r h.2,List.getElem?_set_ne hne]
theorem Ef.keeps (e:Ef) (rg:List Rg):Agree e.ks rg (e.up rg)∧rg.length≤(e.up rg).length:=by
 constructor
 ·intro r g hg hm
  have hl:=(List.getElem?_eq_some_iff.1 hg).1
  rw [Ef.up,snoc_eq,List.getElem?_append_left (by rw [setsE_length];exact hl),setsE_get _ _ _ hm]
  exact hg
 ·rw [Ef.up,snoc_eq,List.length_append,setsE_length];omega
def Effs (P:Program) (ρ:Operand→Value) (o:Oper) (w:World) (K:Value→World→Prop):Prop :=
 (∃ v w',Yields P ρ o w v w'∧K v w')∨∃ g args,(execOp ρ o).run P w=.ok (.enter g args) w∧Calls P g args w fun e w'=>∃ v,e=.returned v∧K v w'
theorem wp_of_effs {P:Program} {o:Oper} {a:Act} {w:World} {K':Value→World→Prop} (h:Effs P a.eval o w K') {K:Act→World→Prop} {Q:Exit→Act→World→Prop} (hK:∀ v w',K' v w'→K (a.put o.dst v) w'):o.wp P a w K Q:=by
 rcases h with ⟨v,w',hy,hv⟩ | ⟨g,args,he,hc⟩
 ·exact wp_of_yields hy (hK v w' hv)
 ·unfold Oper.wp
  rw [he]
  refine Calls.mono hc fun e w' ⟨v,he,hv⟩=>?_
  subst he
  exact hK v w' hv
def EffOk (E:Env) (N0:Nums) (rg:List Rg) (f:Fr) (op:Op) (r:SV) (rg':List Rg):Prop :=
 ∀ (N:Nums) (ρ:Operand→Value) (o:Oper) (w:World),N0.le N→o.op=op→(∀ x s,ev f x=some s→s.den N=some (ρ x))→Sat E N rg w →
  Effs E.P ρ o w fun v w'=>∃ N',N.le N'∧r.den N'=some v∧Sat E N' rg' w'
def lookE:List (Nat × Ef)→Nat→Option Ef
 | [],_=>none
 | (k,v)::r,t=>bif Nat.beq k t then some v else lookE r t
def keyE (o:Oper) (i:Nat):Nat:=match o.dst with
 | some d=>d
 | none=>1000+i
def effQ (tx:List (Nat × Ef)) (n:Nat) (all:Array Oper) (i:Nat) (s:St):Option (Fr × Op × Ef) :=
 match nth all.toList i with
 | none=>none
 | some o=>match lookE tx (keyE o i) with
  | some e=>bif sure all s.fr o then match putO n s.fr o.dst (.val (e.r s.rg)) with
    | some f=>some (f,o.op,e)
    | none=>none
   else none
  | none=>none
theorem effQ_sound {E:Env} {tx:List (Nat × Ef)} {N N0:Nums} {s:St} {a:Act} {all:Array Oper} {i:Nat} {o:Oper} {w:World} {f:Fr} {op:Op} {e:Ef} (ho:all[i]?=some o) (hq:effQ tx E.n all i s=some (f,op,e))
  (hob:EffOk E N0 s.rg s.fr op (e.r s.rg) (e.up s.rg)) (hN0:N0.le N) (hf:FrOk E.n N s.fr a) (hS:Sat E N s.rg w) :
  Region.wanted o (yielded all a.tmps)=true∧∀ (K:Act→World→Prop) (Q:Exit→Act→World→Prop),(∀ N' x w',N.le N'→FrOk E.n N' f (a.put o.dst x)→Sat E N' (e.up s.rg) w'→K (a.put o.dst x) w')→o.wp E.P a w K Q:=by
 have ho':nth all.toList i=some o:=by rw [nth_eq];simpa using ho
 unfold effQ at hq
 simp only [ho'] at hq
 split at hq
 ·rename_i e0 _
  obtain ⟨hsu,hq⟩:=bif_none hq
  split at hq
  ·rename_i f1 hp
   simp only [Option.some.injEq,Prod.mk.injEq] at hq
   obtain ⟨rfl,rfl,rfl⟩:=hq
   refine ⟨sure_sound hf hsu,fun K Q hK=>?_⟩
   exact wp_of_effs (hob N a.eval o w hN0 rfl (fun x s hx=>ev_sound hf hx) hS) fun v w' ⟨N',h1,h2,h3⟩=>hK N' v w' h1 (putO_sound (hf.mono h1) h2 hp) h3
  ·cases hq
 ·cases hq
abbrev PE:=List Rg→Fr→Op→SV→List Rg→Prop
def stepX (pe:PE) (pr:Owe→Prop) (td:List (Nat × SV)) (tx:List (Nat × Ef)) (T:Tab) (n:Nat) (all:Array Oper) (K:KW) (i:Nat) (c:St→Prop) (s:St):Prop :=
 match effQ tx n all i s with
 | some (f,op,e)=>allN (lookK K i) e.ks=true∧pe s.rg s.fr op (e.r s.rg) (e.up s.rg)∧c ⟨f,e.up s.rg⟩
 | none=>stepT pr td T n all K i c s
def anyX (pe:PE) (pr:Owe→Prop) (fin:St→Prop) (td:List (Nat × SV)) (tx:List (Nat × Ef)) (T:Tab) (n:Nat) (all:Array Oper) (K:KW) (rg:List Rg):STree→St→Prop
 | .nil,s=>fin s
 | .q i blk r,s=>quietK K i=true∧match qP td T n all (maskRg (flatK (memB blk) K) rg 0) i s.fr with
  | some (f,o)=>prL pr o (anyX pe pr fin td tx T n all K rg r ⟨f,s.rg⟩)
  | none=>False
 | .one i r,s=>stepX pe pr td tx T n all K i (fun s'=>anyX pe pr fin td tx T n all K rg r s') s
 | .two i j x y,s=>stepX pe pr td tx T n all K i (fun s'=>anyX pe pr fin td tx T n all K rg x s') s∧stepX pe pr td tx T n all K j (fun s'=>anyX pe pr fin td tx T n all K rg y s') s
def dry1 (td:List (Nat × SV)) (tx:List (Nat × Ef)) (T:Tab) (n:Nat) (all:Array Oper) (i:Nat) (c:St→KW) (s:St):KW :=
 match effQ tx n all i s with
 | some (f,_,e)=>(i,e.ks)::c ⟨f,e.up s.rg⟩
 | none=>match qP td T n all s.rg i s.fr with
  | some (f,_)=>c ⟨f,s.rg⟩
  | none=>match opE T n all i s with
   | some s'=>match stR s.fr all i with
    | some k=>(i,[k])::c s'
    | none=>c s'
   | none=>match pcall td n all i s.fr with
    | some (f,_)=>c ⟨f,s.rg⟩
    | none=>[]
def addK (i:Nat) (ks:List Nat):KW→KW
 | []=>[(i,ks)]
 | (j,l)::r=>bif Nat.beq j i then (j,app ks l)::r else (j,l)::addK i ks r
def mergeK:KW→KW→KW
 | [],K=>K
 | (i,ks)::r,K=>mergeK r (addK i ks K)
def dryX (td:List (Nat × SV)) (tx:List (Nat × Ef)) (T:Tab) (n:Nat) (all:Array Oper):STree→St→KW
 | .nil,_=>[]
 | .q i _ r,s=>match qP td T n all s.rg i s.fr with
  | some (f,_)=>dryX td tx T n all r ⟨f,s.rg⟩
  | none=>[]
 | .one i r,s=>dry1 td tx T n all i (fun s'=>dryX td tx T n all r s') s
 | .two i j x y,s=>mergeK (dry1 td tx T n all i (fun s'=>dryX td tx T n all x s') s) (dry1 td tx T n all j (fun s'=>dryX td tx T n all y s') s)
theorem anyX_sound {E:Env} {T:Tab} (hT:TabOk E.P T) {td:List (Nat × SV)} {tx:List (Nat × Ef)} {all:Array Oper} (hsel:Region.noSelect all=true) {Q:Exit→Act→World→Prop} (hQ:PanicOk Q) {N0:Nums} {K:KW} {rg:List Rg} {fin:St→Prop} {Nf:Nums} (wf:World) (hV:Vis Nf rg wf):∀ (t:STree) (m:Nat) (listed:Array Bool) {s:St} {N:Nums} {a:Act} {w:World},
  treeOk all t m listed=true→listed.size=all.size→anyX (EffOk E N0) (Owe.Ok E N0) fin td tx T E.n all K rg t s→Nf.le N→N0.le N→FrOk E.n N s.fr a→Sat E N s.rg w→Agree (wrL K listed) rg s.rg→rg.length≤s.rg.length →
  (∀ s' N' a' w',fin s'→N.le N'→FrOk E.n N' s'.fr a'→Sat E N' s'.rg w'→Q .normal a' w')→wpF E.P all Q (fun L=>VI E.im Nf (maskRg (wrL K L) rg 0)) m listed a w:=by
 have emp:∀ {l:List Nat},l.isEmpty=true→l=[]:=by intro l h;cases l<;>simp at h ⊢
 have see:∀ (L:Array Bool) {N:Nums} {rg':List Rg} {w:World},Nf.le N→Agree (wrL K L) rg rg'→Sat E N rg' w→VI E.im Nf (maskRg (wrL K L) rg 0) w:=fun L _ _ _ hN ha hS=>⟨vis_of_agree (hV.mask _) hN ha hS,hS.imm⟩
 -- one operation that is ready
 have step:∀ (m:Nat) (listed:Array Bool) (i:Nat) (c:St→Prop) {s:St} {N:Nums} {a:Act} {w:World},i∈Region.ready .any all listed→listed.size=all.size→stepX (EffOk E N0) (Owe.Ok E N0) td tx T E.n all K i c s→Nf.le N→N0.le N→FrOk E.n N s.fr a→Sat E N s.rg w→Agree (wrL K listed) rg s.rg→rg.length≤s.rg.length →
   (∀ s' N' a' w',c s'→N.le N'→FrOk E.n N' s'.fr a'→Sat E N' s'.rg w'→Agree (wrL K (listed.setIfInBounds i true)) rg s'.rg→rg.length≤s'.rg.length→wpF E.P all Q (fun L=>VI E.im Nf (maskRg (wrL K L) rg 0)) m (listed.setIfInBounds i true) a' w') →
   wpOp E.P all Q i (fun a' w'=>VI E.im Nf (maskRg (wrL K (listed.setIfInBounds i true)) rg 0) w'∧wpF E.P all Q (fun L=>VI E.im Nf (maskRg (wrL K L) rg 0)) m (listed.setIfInBounds i true) a' w') a w:=by
  intro m listed i c s N a w hrm hn hg hN hN0 hf hS ha hl hk
  have hlt:i<listed.size:=by
   obtain ⟨_,o,ho,_⟩:=mem_ready.1 hrm
   rw [hn];exact (Array.getElem?_eq_some_iff.1 ho).1
  have hset:(listed.setIfInBounds i true).getD i false=true:=by simp [hlt]
  have grow:∀ r,memN (wrL K listed) r=true→memN (wrL K (listed.setIfInBounds i true)) r=true:=fun r h=>by
   obtain ⟨p,h1,h2,h3⟩:=memN_flat.1 h
   refine memN_flat.2 ⟨p,h1,?_,h3⟩
   by_cases e:i=p.1
   ·rw [←e];exact hset
   ·rw [getD_set_ne false e];exact h2
  have own:∀ k,memN (lookK K i) k=true→memN (wrL K (listed.setIfInBounds i true)) k=true:=fun k hk=>by
   obtain ⟨p,h1,h2,h3⟩:=lookK_mem hk
   exact memN_flat.2 ⟨p,h1,by rw [h2];exact hset,h3⟩
  have ha1:Agree (wrL K (listed.setIfInBounds i true)) rg s.rg:=ha.mono fun r hr=>by
   cases hx:memN (wrL K listed) r with
   | true=>rw [grow r hx] at hr;cases hr
   | false=>rfl
  obtain ⟨_,o,ho,_⟩:=mem_ready.1 hrm
  unfold stepX at hg
  unfold wpOp
  simp only [ho]
  split at hg
  ·rename_i f op e hq
   obtain ⟨hmk,hob,hg⟩:=hg
   obtain ⟨hw,hx⟩:=effQ_sound ho hq hob hN0 hf hS
   obtain ⟨hk1,hk2⟩:=e.keeps s.rg
   have ha2:Agree (wrL K (listed.setIfInBounds i true)) rg (e.up s.rg):=fun r g hg hr=>hk1 r g (ha1 r g hg hr) (allN_spec hmk r (by
    cases hx:memN (lookK K i) r with
    | true=>rw [own r hx] at hr;cases hr
    | false=>rfl))
   rw [hw,if_pos rfl]
   exact .inl (hx _ _ fun N' x w' hN' hf' hS'=>⟨see _ (hN.trans hN') ha2 hS',hk _ N' _ w' hg hN' hf' hS' ha2 (Nat.le_trans hl hk2)⟩)
  unfold stepT at hg
  split at hg
  ·rename_i f ob hq
   obtain ⟨hob,hg⟩:=prL_spec hg
   obtain ⟨v,hv,hfr⟩:=qP_sound hT ho hq hob hN0 hf hS.vi
   have hnext:=hk _ N _ w hg (Nums.le.refl N) hfr hS ha1 hl
   rcases hv with ⟨hw,hrun⟩ | ⟨hw,rfl⟩
   ·rw [hw,if_pos rfl]
    exact .inl (wp_of_yields (.inl (hrun w hS.vi)) ⟨see _ hN ha1 hS,hnext⟩)
   ·rw [hw]
    exact ⟨see _ hN ha1 hS,hnext⟩
  ·split at hg
   ·rename_i s1 he
    obtain ⟨hmk,hg2⟩:=hg
    obtain ⟨hw,N',x,w',hN',hy,hf',hS'⟩:=opE_sound hT (by simpa using ho) he hf hS
    have ha2:=stepE_agree (ks:=wrL K (listed.setIfInBounds i true)) ha1 hl (by
     split
     ·rename_i k hk'
      rw [hk'] at hmk
      exact own k hmk
     ·rfl) he
    rw [hw,if_pos rfl]
    exact .inl (wp_of_yields hy ⟨see _ (hN.trans hN') ha2.1 hS',hk _ N' _ _ hg2 hN' hf' hS' ha2.1 ha2.2⟩)
   ·split at hg
    ·rename_i f gk g l v hpc
     obtain ⟨hob,hg⟩:=hg
     rcases pcall_sound ho hpc hob hN0 hf hS with ⟨hw,hx⟩ | ⟨hw,hf'⟩
     ·rw [hw,if_pos rfl]
      exact .inl (hx _ _ fun x w' hf' hS'=>⟨see _ hN ha1 hS',hk _ N _ w' hg (Nums.le.refl N) hf' hS' ha1 hl⟩)
     ·rw [hw]
      exact ⟨see _ hN ha1 hS,hk _ N _ w hg (Nums.le.refl N) hf' hS ha1 hl⟩
    ·exact hg.elim
 intro t
 induction t with
 | nil =>
  intro m listed s N a w hs hn hg hN hN0 hf hS ha hl hk
  simp only [treeOk,Bool.and_eq_true] at hs
  obtain rfl:=Nat.eq_of_beq_eq_true hs.1
  exact wpF.done (emp hs.2) (hk s N a w hg (Nums.le.refl N) hf hS)
 | q i blk r ih =>
  intro m listed s N a w hs hn hg hN hN0 hf hS ha hl hk
  cases m with
  | zero=>simp [treeOk] at hs
  | succ m =>
   have hS0:=see listed hN ha hS
   simp only [treeOk,Bool.and_eq_true] at hs
   obtain ⟨⟨⟨⟨hr,hfree⟩,hclosed⟩,hwithin⟩,hs⟩:=hs
   simp only [anyX] at hg
   obtain ⟨hqk,hg⟩:=hg
   have hqk:=quietK_spec hqk
   have hrm:i∈Region.ready .any all listed:=by simpa using hr
   have hi0:listed.getD i false=false:=by
    have h1:=(mem_ready.1 hrm).1
    rcases Nat.lt_or_ge i listed.size with h' | h'
    ·simp [h'] at h1 ⊢;exact h1
    ·rw [Array.getD_eq_getD_getElem?,Array.getElem?_eq_none h'];rfl
   have same:∀ (L:Array Bool) (r:Nat),memN (wrL K (L.setIfInBounds i true)) r=true↔memN (wrL K L) r=true:=fun L r=>by
    simp only [wrL,memN_flat]
    constructor
    ·rintro ⟨p,h1,h2,h3⟩
     exact ⟨p,h1,by rwa [getD_set_ne false (fun e=>hqk p h1 e.symm)] at h2,h3⟩
    ·rintro ⟨p,h1,h2,h3⟩
     exact ⟨p,h1,by rwa [getD_set_ne false (fun e=>hqk p h1 e.symm)],h3⟩
   split at hg
   ·rename_i f ob hq
    obtain ⟨_,o,ho,_⟩:=mem_ready.1 hrm
    obtain ⟨hob,hg⟩:=prL_spec hg
    have wide:∀ {L':Array Bool} {w':World},Up all i listed L'→VI E.im Nf (maskRg (wrL K L') rg 0) w'→VI E.im Nf (maskRg (flatK (memB blk) K) rg 0) w':=fun hup hv =>
     ⟨hv.1.more fun r hr=>by
      obtain ⟨p,h1,h2,h3⟩:=memN_flat.1 hr
      exact memN_flat.2 ⟨p,h1,(hup.within hclosed hn hi0 hwithin).2.2 _ h2,h3⟩,hv.2⟩
    obtain ⟨v,hv,hfr⟩:=qP_sound hT ho hq hob hN0 hf ((wide .here hS0).mono hN)
    refine wpF.take (S:=fun L=>VI E.im Nf (maskRg (wrL K L) rg 0)) ho hsel hfree hr (fun c a w h=>hQ c a o.dst v w h) (fun L w=>⟨fun h=>⟨h.1.more fun r hr=>(same L r).1 hr,h.2⟩,fun h=>⟨h.1.more fun r hr=>(same L r).2 hr,h.2⟩⟩) ?_ hS0
     (ih m _ hs (by simpa using hn) hg hN hN0 hfr hS (fun r g hg hm=>ha r g hg (by
      cases hx:memN (wrL K listed) r with
      | true=>rw [(same listed r).2 hx] at hm;cases hm
      | false=>rfl)) hl hk)
    rcases hv with ⟨hw,hrun⟩ | ⟨hw,rfl⟩
    ·exact .inl ⟨hw,fun w ⟨L',hup,hw⟩=>hrun w ((wide hup hw).mono hN)⟩
    ·exact .inr ⟨hw,rfl⟩
   ·exact hg.elim
 | one i r ih =>
  intro m listed s N a w hs hn hg hN hN0 hf hS ha hl hk
  cases m with
  | zero=>simp [treeOk] at hs
  | succ m =>
   simp only [treeOk,Bool.and_eq_true] at hs
   have hr:=only_spec hs.1
   refine wpF.all hr (by simp) fun j hj=>?_
   simp only [List.mem_singleton] at hj;subst hj
   refine step m listed j _ (by rw [hr];simp) hn hg hN hN0 hf hS ha hl fun s' N' a' w' hc hN' hf' hS' ha' hl'=>?_
   exact ih m _ hs.2 (by simpa using hn) hc (hN.trans hN') (hN0.trans hN') hf' hS' ha' hl' fun s2 N2 a2 w2 h1 h2=>hk s2 N2 a2 w2 h1 (hN'.trans h2)
 | two i j x y ihx ihy =>
  intro m listed s N a w hs hn hg hN hN0 hf hS ha hl hk
  cases m with
  | zero=>simp [treeOk] at hs
  | succ m =>
   simp only [treeOk,Bool.and_eq_true] at hs
   obtain ⟨⟨h2,hx⟩,hy⟩:=hs
   have hr:=only2_spec h2
   have hmi:i∈Region.ready .any all listed:=by rcases hr with h | h<;>rw [h]<;>simp
   have hmj:j∈Region.ready .any all listed:=by rcases hr with h | h<;>rw [h]<;>simp
   have si:=step m listed i _ hmi hn hg.1 hN hN0 hf hS ha hl fun s' N' a' w' hc hN' hf' hS' ha' hl'=>ihx m _ hx (by simpa using hn) hc (hN.trans hN') (hN0.trans hN') hf' hS' ha' hl' fun s2 N2 a2 w2 h1 h2=>hk s2 N2 a2 w2 h1 (hN'.trans h2)
   have sj:=step m listed j _ hmj hn hg.2 hN hN0 hf hS ha hl fun s' N' a' w' hc hN' hf' hS' ha' hl'=>ihy m _ hy (by simpa using hn) hc (hN.trans hN') (hN0.trans hN') hf' hS' ha' hl' fun s2 N2 a2 w2 h1 h2=>hk s2 N2 a2 w2 h1 (hN'.trans h2)
   rcases hr with h | h
   ·exact wpF.all h (by simp) fun q hq=>by
     simp only [List.mem_cons,List.not_mem_nil,or_false] at hq
     rcases hq with rfl | rfl
     ·exact si
     ·exact sj
   ·exact wpF.all h (by simp) fun q hq=>by
     simp only [List.mem_cons,List.not_mem_nil,or_false] at hq
     rcases hq with rfl | rfl
     ·exact sj
     ·exact si
theorem X.goTX {P:Program} {fn:Func} {R:Ending→World→Prop} {W:World} {O:Nat→Nat→Prop} {im:Nat→Nat→Option Value} {D:Nat→Nat→Prop} {Rr:World→Prop} {N0:Nums} {B:SchT} {T:Tab} (td:List (Nat × SV)) (tx:List (Nat × Ef)) (hT:TabOk P T) (t:STree) (n:Nat) {id:Nat} {ops:Array Oper} {k:List It} {s:St}
  (hn:fn.ntmps=n) (hsel:Region.noSelect ops=true) (ht:treeOk ops t ops.size (Array.replicate ops.size false)=true)
  (h:∀ (pr:Owe→Prop) (pe:PE) (fin:St→Prop),(∀ q:Owe,q.Ok (mkE P fn R W O im D Rr N0 B).toEnv N0→pr q)→(∀ rg f op r rg',EffOk (mkE P fn R W O im D Rr N0 B).toEnv N0 rg f op r rg'→pe rg f op r rg')→(∀ s',X (mkE P fn R W O im D Rr N0 B) k s'→fin s')→anyX pe pr fin td tx T n ops (dryX td tx T n ops t s) s.rg t s):X (mkE P fn R W O im D Rr N0 B) (.code (.region id ops true)::k) s:=by
 subst hn
 intro N a w hN hf hS
 show _→Code.wp _ _ _ _ _
 intro _
 have hg:=h (Owe.Ok (mkE P fn R W O im D Rr N0 B).toEnv N0) (EffOk (mkE P fn R W O im D Rr N0 B).toEnv N0) (fun s'=>X (mkE P fn R W O im D Rr N0 B) k s') (fun _ h=>h) (fun _ _ _ _ _ h=>h) (fun _ h=>h)
 have hS':Sat (mkE P fn R W O im D Rr N0 B).toEnv N s.rg { w with drawn:=w.drawn+1 }:=hS.drew
 have hwf:=anyX_sound (E:=(mkE P fn R W O im D Rr N0 B).toEnv) hT hsel (PanicOk.sem (fun _ _ d _ _ h=>by cases d<;>exact h) k) _ hS'.vis t _ _ ht (by simp) hg (Nums.le.refl N) hN hf hS' (fun r g hg _=>hg) (Nat.le_refl _) (fun s' N' a' w' h1 h2 h3 h4=>h1 N' a' w' (hN.trans h2) h3 h4)
 exact wp_region_any hT.mixed hwf.any
def treeS:Sch→STree
 | []=>.nil
 | (i,some blk)::r=>.q i blk (treeS r)
 | (i,none)::r=>.one i (treeS r)
theorem treeS_ok {ops:Array Oper}:∀ (sch:Sch) (L:Array Bool),schOk ops sch L=true→treeOk ops (treeS sch) sch.length L=true
 | [],L,h=>by
  simp only [schOk] at h
  simp only [treeS,treeOk,List.length_nil]
  simp [h]
 | (i,some blk)::r,L,h=>by
  simp only [schOk,Bool.and_eq_true] at h
  simp only [treeS,treeOk,List.length_cons,Bool.and_eq_true]
  exact ⟨h.1,treeS_ok r _ h.2⟩
 | (i,none)::r,L,h=>by
  simp only [schOk,Bool.and_eq_true] at h
  simp only [treeS,treeOk,List.length_cons,Bool.and_eq_true]
  exact ⟨h.1,treeS_ok r _ h.2⟩
def runX (pe:PE) (pr:Owe→Prop) (fin:List It→St→Prop) (td:List (Nat × SV)) (tx:List (Nat × Ef)) (T:Tab) (B:SchT) (n:Nat) (rs:List ResultVar):Nat→List It→St→Prop
 | 0,t,s=>fin t s
 | m+1,t,s =>
  match t with
  | .ops all (i::rest)::k=>match effQ tx n all i s with
   | some (f,op,e)=>pe s.rg s.fr op (e.r s.rg) (e.up s.rg)∧runX pe pr fin td tx T B n rs m (.ops all rest::k) ⟨f,e.up s.rg⟩
   | none=>match qP td T n all s.rg i s.fr with
    | some (f,o)=>prL pr o (runX pe pr fin td tx T B n rs m (.ops all rest::k) ⟨f,s.rg⟩)
    | none=>match opE T n all i s with
     | some s'=>runX pe pr fin td tx T B n rs m (.ops all rest::k) s'
     | none=>match pcall td n all i s.fr with
      | some (f,gk,g,l,v)=>pr (.call s.rg gk g l v)∧runX pe pr fin td tx T B n rs m (.ops all rest::k) ⟨f,s.rg⟩
      | none=>fin t s
  | _=>match adv T n rs t s with
   | some (t',s')=>runX pe pr fin td tx T B n rs m t' s'
   | none=>match t with
    | .code c::k=>match c with
     | .region id ops d=>match d with
      | true=>match lookS B id with
       | some sch=>anyX pe pr (fun s'=>runX pe pr fin td tx T B n rs m k s') td tx T n ops (dryX td tx T n ops (treeS sch) s) s.rg (treeS sch) s
       | none=>fin t s
      | false=>fin t s
     | _=>fin t s
    | _=>fin t s
theorem runX_sound {td:List (Nat × SV)} {tx:List (Nat × Ef)} {T:Tab} {B:SchT} {n:Nat} {rs:List ResultVar} (E:Ctx) (e1:E.n=n) (e2:E.B=B) (e3:TabOk E.P T) (e4:PanicOk E.Q):∀ (m:Nat) (t:List It) (s:St),
  runX (EffOk E.toEnv E.N0) (Owe.Ok E.toEnv E.N0) (fun t s=>X E t s) td tx T B n rs m t s→X E t s:=by
 subst e1
 subst e2
 intro m
 induction m with
 | zero=>intro t s h;exact h
 | succ m ih =>
  intro t s h
  simp only [runX] at h
  split at h
  ·rename_i all i rest k
   have there:∀ {α:Type} {y:α} {f:Oper→Option α},(match nth all.toList i with | none=>none | some o=>f o)=some y→∃ op,all[i]?=some op:=fun {α y f} h=>by
    split at h
    ·cases h
    ·rename_i op hop;rw [nth_eq] at hop;exact ⟨op,by simpa using hop⟩
   split at h
   ·rename_i f op e hq
    obtain ⟨hob,h⟩:=h
    have hx:=ih _ _ h
    intro N a w hN hf hS
    show wpOps _ _ _ _ _ _
    obtain ⟨o,ho⟩:=there hq
    obtain ⟨hw,h2⟩:=effQ_sound (E:=E.toEnv) ho hq hob hN hf hS
    rw [wpOps_cons]
    unfold wpOp
    simp only [ho]
    rw [hw,if_pos rfl]
    exact .inl (h2 _ _ fun N' x w' hN' hf' hS'=>hx N' _ w' (hN.trans hN') hf' hS')
   ·split at h
    ·rename_i f o hq
     obtain ⟨hob,h⟩:=prL_spec h
     have hx:=ih _ _ h
     intro N a w hN hf hS
     show wpOps _ _ _ _ _ _
     obtain ⟨op,hop⟩:=there hq
     obtain ⟨v,hv,hfr⟩:=qP_sound e3 hop hq hob hN hf hS.vi
     rw [wpOps_cons]
     unfold wpOp
     simp only [hop]
     rcases hv with ⟨hw,hrun⟩ | ⟨hw,rfl⟩
     ·rw [hw,if_pos rfl]
      exact .inl (wp_of_yields (.inl (hrun w hS.vi)) (hx N _ w hN hfr hS))
     ·rw [hw]
      exact hx N _ w hN hfr hS
    ·split at h
     ·rename_i s1 he
      exact X.opEq e3 ⟨he⟩ (ih _ _ h)
     ·split at h
      ·rename_i f gk g l v hpc
       obtain ⟨hob,h⟩:=h
       have hx:=ih _ _ h
       intro N a w hN hf hS
       show wpOps _ _ _ _ _ _
       obtain ⟨op,hop⟩:=there hpc
       rw [wpOps_cons]
       unfold wpOp
       simp only [hop]
       rcases pcall_sound hop hpc hob hN hf hS with ⟨hw,hy⟩ | ⟨hw,hf'⟩
       ·rw [hw,if_pos rfl]
        exact .inl (hy _ _ fun x w' hf' hS'=>hx N _ w' hN hf' hS')
       ·rw [hw]
        exact hx N _ w hN hf' hS
      ·exact h
  ·split at h
   ·rename_i t1 s1 ha
    exact adv_sound e3 ha (ih _ _ h)
   ·split at h
    ·rename_i c k _
     split at h
     ·rename_i id ops d _
      split at h
      ·split at h
       ·rename_i sch hsch
        intro N a w hN hf hS
        show _→Code.wp _ _ _ _ _
        intro hreg
        simp only [regsB,hsch] at hreg
        have hS':Sat E.toEnv N s.rg { w with drawn:=w.drawn+1 }:=hS.drew
        simp only [anyOk,Bool.and_eq_true] at hreg
        obtain ⟨⟨hn,hlen⟩,hsch'⟩:=hreg
        have hlen:=Nat.eq_of_beq_eq_true hlen
        have:=anyX_sound (E:=E.toEnv) e3 hn (e4.sem _) _ hS'.vis (treeS sch) _ _ (treeS_ok sch _ hsch') (by simp) h (Nums.le.refl N) hN hf hS' (fun r g hg _=>hg) (Nat.le_refl _) (fun s' N' a' w' hx hN' hf' hS'=>ih _ _ hx N' a' w' (hN.trans hN') hf' hS')
        rw [hlen] at this
        exact wp_region_any e3.mixed this.any
       ·exact h
      ·exact h
     ·exact h
    ·exact h
theorem X.goX {P:Program} {fn:Func} {R:Ending→World→Prop} {W:World} {O:Nat→Nat→Prop} {im:Nat→Nat→Option Value} {D:Nat→Nat→Prop} {Rr:World→Prop} {N:Nums} {B:SchT} {T:Tab} (td:List (Nat × SV)) (tx:List (Nat × Ef)) (hT:TabOk P T) (m n:Nat) (hn:fn.ntmps=n) {t:List It} {s:St} {rs:Array ResultVar} (_hrs:fn.results=rs)
  (h:∀ (pr:Owe→Prop) (pe:PE) (fin:List It→St→Prop),(∀ q,q.Ok (mkE P fn R W O im D Rr N B).toEnv N→pr q)→(∀ rg f op r rg',EffOk (mkE P fn R W O im D Rr N B).toEnv N rg f op r rg'→pe rg f op r rg')→(∀ t s,X (mkE P fn R W O im D Rr N B) t s→fin t s)→runX pe pr fin td tx T B n rs.toList m t s):X (mkE P fn R W O im D Rr N B) t s:=by
 subst hn
 exact runX_sound (mkE P fn R W O im D Rr N B) rfl rfl hT (fun _ _ d _ _ h=>by cases d<;>exact h) m t s (h _ _ _ (fun _ h=>h) (fun _ _ _ _ _ h=>h) (fun _ _ h=>h))
theorem EffOk.step {E:Env} {N0:Nums} {T:Tab} (hT:TabOk E.P T) {rg rg':List Rg} {f:Fr} {op:Op} {r:SV} (h:stepE T rg (ev f) op=some (r,rg')):EffOk E N0 rg f op r rg':=by
 intro N a o w hN hop hf hS
 subst hop
 obtain ⟨N',x,w',h1,h2,h3,h4⟩:=stepE_sound hT hS hf h
 exact .inl ⟨x,w',h3,N',h1,h2,h4⟩
theorem stepE_append {T:Tab} {rg rg':List Rg} {f:Fr} {x y:Operand} {ts tx e m:Nat} {ti te:TI} {sx sy r:SV} {new:List SV} (hx:ev f x=some sx) (hy:ev f y=some sy) (hti:lookT T ts=some ti) (hk:ti.kind=.slice e) (hte:lookT T e=some te)
  (hsrc:appSrc T rg te sy tx=some (new,m)) (happ:appV rg te sx new m=some (r,rg')):stepE T rg (ev f) (.call { callee:=.builtin .append,args:=#[x,y],argTypes:=#[ts,tx] })=some (r,rg'):=by
 simp only [stepE,hx,hy,hti,hk,hte,hsrc,happ]
theorem EffOk.call {E:Env} {N0:Nums} {rg rg':List Rg} {f:Fr} {g:Nat} {xs:Array Operand} {ts:Array TypeId} {l:List SV} {r:SV} (hl:evL f xs.toList=some l) (hc:∀ args w,(callFunc g args).run E.P w=.ok (.enter g args) w)
  (h:∀ (N:Nums) (w:World) (args:List Value),N0.le N→Sat E N rg w→SV.denL N l=some args→Calls E.P g args.toArray w fun e w'=>∃ v,e=.returned v∧∃ N',N.le N'∧r.den N'=some v∧Sat E N' rg' w') :
  EffOk E N0 rg f (.call { callee:=.value (.func g),args:=xs,argTypes:=ts }) r rg':=by
 intro N ρ o w hN hop hf hS
 have hargs:SV.denL N l=some (xs.toList.map ρ):=by
  have key:∀ (ys:List Operand) {l:List SV},evL f ys=some l→SV.denL N l=some (ys.map ρ):=fun ys=>by
   induction ys with
   | nil=>intro l h;simp only [evL,Option.some.injEq] at h;subst h;rfl
   | cons y ys ih =>
    intro l h
    simp only [evL] at h
    split at h
    ·rename_i v q hv hq
     simp only [Option.some.injEq] at h;subst h
     simp [SV.denL,hf _ _ hv,ih hq]
    ·cases h
  exact key _ hl
 refine .inr ⟨g,(xs.toList.map ρ).toArray,?_,h N w _ hN hS hargs⟩
 have hfn:=hf (.func g) _ rfl
 simp only [SV.den,one?,if_true,Option.some.injEq] at hfn
 simp only [execOp,hop,resolve,←hfn,Deferred.ofValue,Sem.run_bind,Sem.run_pure,Result.andThen,invoke]
 rw [hc]
 congr 2
 apply Array.ext'
 simp
theorem EffOk.fresh {E:Env} {N0:Nums} {rg:List Rg} {f:Fr} {g n sz:Nat} {xs:Array Operand} {ts:Array TypeId} {l:List SV} {cs:List SV} (hl:evL f xs.toList=some l) (hc:∀ args w,(callFunc g args).run E.P w=.ok (.enter g args) w)
  (h:∀ (N:Nums) (w:World) (args:List Value),N0.le N→Sat E N rg w→SV.denL N l=some args→Calls E.P g args.toArray w (FreshRet cs n sz w)) :
  EffOk E N0 rg f (.call { callee:=.value (.func g),args:=xs,argTypes:=ts }) (.osl rg.length 0 n sz none) (rg++[⟨true,cs,none⟩]) :=
 EffOk.call hl hc fun N w args hN hS ha=>(h N w args hN hS ha).mono fun e w' hf=>by
  obtain ⟨p,v,h1,h2,_,h3⟩:=hf.sat hS
  exact ⟨v,h1,_,Nums.le_append _ _,h2,h3⟩
theorem Sat.cells {E:Env} {N:Nums} {rg:List Rg} {w w':World} {r:Nat} {g:Rg} {p:Num} (h:Sat E N rg w) (hg:rg[r]?=some g) (hp:N[r]?=some p) (ho:g.own=true)
  (hc:Chg (fun k o=>k=p.b∧p.o≤o∧o<p.o+p.x) w w') (cs':List SV) (hl:cs'.length≤p.x) (hcs:∀ (j:Nat) (c:SV),cs'[j]?=some c→∃ v,c.den N=some v∧w'.cell? ⟨p.b,p.o+j,none⟩=some v):Sat E N (rg.set r { g with cells:=cs' }) w':=by
 have hrl:r<rg.length:=(List.getElem?_eq_some_iff.1 hg).1
 have hnd:∀ k o,(k=p.b∧p.o≤o∧o<p.o+p.x)→¬E.D k o:=fun k o ⟨e1,e2,e3⟩ hd=>by
  subst e1
  have:=h.dd r g p hg hp ho (o-p.o) (by omega)
  rw [show p.o+(o-p.o)=o by omega] at this
  exact this hd
 have keepD:∀ k o,E.D k o→(w'.cell? ⟨k,o,none⟩=w.cell? ⟨k,o,none⟩∧w'.frozen? ⟨k,o,none⟩=w.frozen? ⟨k,o,none⟩)∧objAt w' k=objAt w k:=fun k o hd=>by
  have hlt:=(h.dlt k o hd).lt
  obtain ⟨x,hx⟩:∃ x,w.heap[k]?=some x:=⟨_,Array.getElem?_eq_getElem hlt⟩
  cases x with
  | cells c e f =>
   obtain ⟨c',h1,h2,h3⟩:=hc.cells k c e f hx
   have h4:=h3 o (fun e=>hnd k o e hd)
   refine ⟨⟨by simp [World.cell?,hx,h1,h4],by simp [World.frozen?,hx,h1]⟩,by simp [objAt,hx,h1]⟩
  | _ =>
   have hne:∀ o',¬(k=p.b∧p.o≤o'∧o'<p.o+p.x):=fun o' ⟨e1,e2,e3⟩=>by
    have:=(h.room r g p hg hp ho (o'-p.o) (by omega)).1
    rw [←e1] at this
    simp [World.cell?,hx] at this
   have e:=hc.same k hlt hne
   exact ⟨⟨by unfold World.cell?;simp only [e],by unfold World.frozen?;simp only [e]⟩,objAt_same e⟩
 refine h.after (m':=E.im) (D':=E.D) (R':=E.R) hc (fun k o _ ⟨e1,e2,e3⟩=>.inl ⟨r,g,p,hg,hp,ho,e1,e2,e3⟩) ⟨fun _ _ _ h=>h,fun k o v hv=>?_,fun _ _ _ h=>.inl h⟩
  (fun k o hd=>⟨.inl hd,(h.dlt k o hd).of (fun hs=>by rw [(keepD k o hd).1.1];exact hs) (keepD k o hd).2⟩) h.loc (h.loc w w' keepD hc.size h.res) (by simp) (fun q x x' pq hq1 hq2 hpq=>?_)
 ·refine cell_of_chg hc (fun ⟨e1,e2,e3⟩=>?_) (h.imm k o v hv)
  have:=h.imd r g p hg hp ho (o-p.o) (by omega)
  rw [show p.o+(o-p.o)=o by omega,←e1,hv] at this
  cases this
 ·rcases get_set hrl hq2 with ⟨rfl,rfl⟩ | ⟨hi,hq2⟩
  ·rw [hg] at hq1;cases hq1
   rw [hp] at hpq;cases hpq
   exact ⟨rfl,rfl,fun e=>(by rw [ho] at e;cases e),fun _=>hl,.inr hcs⟩
  ·rw [hq1] at hq2;cases hq2
   refine ⟨rfl,rfl,fun _=>rfl,fun e=>h.ext q x pq hq1 hpq e,.inl ⟨rfl,fun j hj ⟨e1,e2,e3⟩=>?_⟩⟩
   have hw:j<x.wid pq:=by
    unfold Rg.wid
    cases hxo:x.own with
    | true=>have:=h.ext q x pq hq1 hpq hxo;simp;omega
    | false=>simpa using hj
   rcases h.disj r q g x p pq hg hp hq1 hpq ho (fun e=>hi e.symm) j hw e1 with h1 | h1<;>omega
def TurnRet (b y K:Nat) (cs:List SV) (n sz:Nat) (w:World) (e:Ending) (w':World):Prop :=
 ∃ b' y' x':Nat,e=.returned (.slice (some ⟨b',y',none⟩) n (x' / sz))∧((b'=b∧y'=y∧x'=K)∨w.heap.size≤b')∧cs.length≤x'∧0<x'∧(∀ (j:Nat) (c:SV),cs[j]?=some c→∃ v,c.den []=some v∧w'.cell? ⟨b',y'+j,none⟩=some v) ∧
  (∀ j,j<x'→(w'.cell? ⟨b',y'+j,none⟩).isSome=true∧w'.frozen? ⟨b',y'+j,none⟩=false)∧Chg (fun k o=>k=b∧y≤o∧o<y+K) w w'
theorem TurnRet.sat {E:Env} {N:Nums} {rg:List Rg} {w w':World} {r:Nat} {g:Rg} {p:Num} {cs:List SV} {n sz:Nat} {e:Ending} (h:Sat E N rg w) (hg:rg[r]?=some g) (hp:N[r]?=some p) (ho:g.own=true) (hob:g.ob=none) (hf:TurnRet p.b p.o p.x cs n sz w e w') :
  ∃ v N',e=.returned v∧N.le N'∧(SV.osl rg.length 0 n sz none).den N'=some v∧Sat E N' (rg.set r ⟨false,[],none⟩++[⟨true,cs,none⟩]) w':=by
 obtain ⟨b',y',x',he,hcase,h1,h2,h3,h4,hc⟩:=hf
 have hrl:r<rg.length:=(List.getElem?_eq_some_iff.1 hg).1
 have hget:∀ q:Num,(N++[q])[rg.length]?=some q:=fun q=>by rw [←h.len];simp
 rcases hcase with ⟨rfl,rfl,rfl⟩ | hnew
 ·have hs:=h.cells hg hp ho hc cs h1 (fun j c hj=>by
   obtain ⟨v,k1,k2⟩:=h3 j c hj
   exact ⟨v,SV.den_mono (N:=[]) (N':=N) (fun r p h=>by simp at h) c k1,k2⟩)
  have hs2:=hs.cut (c:=0) (n:=cs.length) (g:={ g with cells:=cs }) (by rw [List.getElem?_set_self hrl]) hp ho (by simp)
  simp only [List.drop_zero,List.take_length,List.set_set,Nat.add_zero,Nat.sub_zero] at hs2
  exact ⟨_,_,he,Nums.le_append _ _,by simp only [SV.den,hget,Num.cap];simp,hs2⟩
 ·have hs:=(h.cells hg hp ho hc [] (Nat.zero_le _) (fun j c hj=>by simp at hj)).retire (r:=r) (by simpa using hrl)
  rw [List.set_set] at hs
  refine ⟨_,_,he,Nums.le_append _ [⟨b',y',x'⟩],by simp only [SV.den,hget,Num.cap];simp,?_⟩
  refine hs.addFresh (s0:=w.heap.size) (fun r p hp=>h.lt r p hp) hnew h.chg.size ?_ h1 (fun j c hj=>?_) h4 (fun i=>?_) (fun i hd=>?_)
  ·obtain ⟨v,hv⟩:=Option.isSome_iff_exists.1 (h4 0 h2).1
   exact World.block_lt_of_cell? _ _ hv
  ·obtain ⟨v,k1,k2⟩:=h3 j c hj
   exact ⟨v,SV.den_mono (N:=[]) (N':=N) (fun r p h=>by simp at h) c k1,k2⟩
  ·cases hi:E.im b' i with
   | none=>rfl
   | some v=>have:=World.block_lt_of_cell? _ _ (h.imm _ _ _ hi);simp at this;omega
  ·have:=(h.dlt _ _ hd).lt
   omega
theorem EffOk.val {E:Env} {N0:Nums} {rg:List Rg} {f:Fr} {op:Op} {r:SV} (h:∀ (N:Nums) (ρ:Operand→Value) (o:Oper) (w:World),N0.le N→o.op=op→(∀ x s,ev f x=some s→s.den N=some (ρ x))→Sat E N rg w→∃ v,r.den N=some v∧(execOp ρ o).run E.P w=.ok (.value v) w):EffOk E N0 rg f op r rg :=
 fun N ρ o w hN hop hf hS=>by
  obtain ⟨v,h1,h2⟩:=h N ρ o w hN hop hf hS
  exact .inl ⟨v,w,.inl h2,N,Nums.le.refl N,h1,hS⟩
end Go.Eng
