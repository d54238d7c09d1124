import Derived.Test.YthaffebapmkppaaGreatRw9
import Derived.Test.YthaffebapmkppaaGreatPd1
import Derived.Test.YthaffebapmkppaaGreatRwE
set_option maxHeartbeats 16000000
set_option maxRecDepth 100000
set_option cbv.maxSteps 100000000
namespace Go.Eng
open Go
theorem vk_move {E:Env} {N0:Nums} {rg:List Rg} {f:Fr} {g:GK} {x:Operand} {sx r:SV} (hx:evK f g x=some sx) (h:g.T→∀ N v,sx.den N=some v→r.den N=some v):ValOk E N0 rg f g (.move x) r:=fun ht N ρ o w _ hop hρ _ =>
 ⟨ρ x,h ht N _ (hρ _ _ hx),fun w' _=>by simp [execOp,hop]⟩
theorem vk_eqN {E:Env} {N0:Nums} {rg:List Rg} {f:Fr} {g:GK} {t ty:TypeId} {x y:Operand} {kd:IntKind} {s1 s2:SI} (hx:evK f g x=some (.int kd s1)) (hy:evK f g y=some (.int kd s2)) (h:¬s1.den=s2.den):ValOk E N0 rg f g (.binOp .eql t x y ty) (.bool (.lit false)) :=
 vk_bin hx hy rfl fun ht N v hv=>by
  rw [←hv]
  simp [SV.den,SB.den,SI.den,eqI,h]
end Go.Eng
namespace Go.Proofs.YthaffebapmkppaaGreat
open Go Go.Eng Go.Sort
structure RegS where
 (k i s l:Int) (q1 q2 q3 q4:Option Addr) (m1 m2 m3 m4 e1 e2 e3 e4:Nat)
def RegS.vals (r:RegS):List Value:=[.int .u8 r.k,.int .u64 r.i,.int .i64 r.s,.slice r.q1 r.m1 r.e1,.slice r.q2 r.m2 r.e2,.slice r.q3 r.m3 r.e3,.int .u64 r.l,.slice r.q4 r.m4 r.e4]
def RegS.svs (r:RegS):List SV:=[.int .u8 (.v r.k),.int .u64 (.v r.i),.int .i64 (.v r.s),.slv r.q1 r.m1 r.e1,.slv r.q2 r.m2 r.e2,.slv r.q3 r.m3 r.e3,.int .u64 (.v r.l),.slv r.q4 r.m4 r.e4]
structure RndG where
 (key:Int) (C:Nat) (p1:Option Addr) (n1 c1:Nat) (p2:Option Addr) (n2 c2:Nat) (b1 b2 b3:Int) (al:Bool) (ph:Int) (got:Nat) (a1 a2 a3:Int) (reg:RegS) (x1 x2 x3 mx:Int)
def RndG.vals (r:RndG):List Value:=[.int .u8 r.key,.int .u64 r.C,.slice r.p1 r.n1 r.c1,.slice r.p2 r.n2 r.c2,.int .u64 r.b1,.int .u8 r.b2,.int .u32 r.b3,.bool r.al,.int .u8 r.ph,.int .u64 r.got,.int .u64 r.a1,.int .u8 r.a2,.int .u32 r.a3]++(r.reg.vals++[.int .u64 r.x1,.int .u8 r.x2,.int .u32 r.x3,.int .u64 r.mx])
def RndG.svs (r:RndG):List SV:=[.int .u8 (.v r.key),.int .u64 (.nat r.C),.slv r.p1 r.n1 r.c1,.slv r.p2 r.n2 r.c2,.int .u64 (.v r.b1),.int .u8 (.v r.b2),.int .u32 (.v r.b3),.bool (.v r.al),.int .u8 (.v r.ph),.int .u64 (.nat r.got),.int .u64 (.v r.a1),.int .u8 (.v r.a2),.int .u32 (.v r.a3)]++(r.reg.svs++[.int .u64 (.v r.x1),.int .u8 (.v r.x2),.int .u32 (.v r.x3),.int .u64 (.v r.mx)])
def MsgA.svs (m:MsgA) (ok:Bool) (r:RegS):List SV:=[.int .u8 (.v m.kind),.int .u8 (.v m.fr),.int .u8 (.v m.to),.int .u8 (.v m.key),.int .u64 (.v m.C),.int .u64 (.v m.b1),.int .u8 (.v m.b2),.int .u32 (.v m.b3),.bool (.lit ok),.int .u64 (.v m.a1),.int .u8 (.v m.a2),.int .u32 (.v m.a3)]++(r.svs++[.int .u64 (.v m.x1),.int .u8 (.v m.x2),.int .u32 (.v m.x3),.int .u64 (.v m.mx)])
def fits (r:RndG) (m:MsgA) (mb:Bool):Prop:=(r.ph=1∧m.kind=2∨r.ph=3∧m.kind=4)∧mb=true∧m.key=r.key∧(m.b1=r.b1∧m.b2=r.b2∧m.b3=r.b3)∧m.to=r.b2
noncomputable def belB (r:RndG) (m:MsgA) (mb:Bool) (o n:Array Int):Bool:=B (fits r m mb∧m.fr∈keepC r.C o n r.key∧(m.ok=true→m.C=(r.C:Int)))
theorem belongs_false (r:RndG) (m:MsgA) (mr:RegS) (mb:Bool) (o n:Array Int) (w:World) (hok:m.ok=false) (hn1:r.n1≤100) (hn2:r.n2≤100) (ho:InB r.p1 r.n1 o w) (hn:InB r.p2 r.n2 n w) (hbo:∀ x∈o.toList,0≤x∧x<256) (hbn:∀ x∈n.toList,0≤x∧x<256) (hmay:mayC r.C o n)
  (hm:∀ w1:World,(∀ k o v,elsewhere [] [] w k o=some v→w1.cell? ⟨k,o,none⟩=some v)→Calls Tryz.prog 43 #[.agg (m.vals mr.vals).toArray] w1 fun e w'=>e=.returned (.bool mb)∧Chg (fun _ _=>False) w1 w') :
  Calls Tryz.prog 38 #[.agg r.vals.toArray,.agg (m.vals mr.vals).toArray] w fun e w'=>e=.returned (.bool (belB r m mb o n))∧Chg (fun _ _=>False) w w':=by
 have hKne:=keep_ne (key:=r.key) hmay
 have hK6:=keepC_len r.C o n r.key
 obtain ⟨q,hq⟩:∃ q,q=belB r m mb o n:=⟨_,rfl⟩
 rw [←hq]
 have hqn:¬fits r m mb→q=false:=fun h=>by rw [hq,belB,B_neg fun h2=>h h2.1]
 have hqy:fits r m mb→q=B (m.fr∈keepC r.C o n r.key∧(m.ok=true→m.C=(r.C:Int))):=fun h=>by rw [hq,belB];congr 1;exact propext ⟨fun h2=>h2.2,fun h2=>⟨h,h2⟩⟩
 clear hq
 unfold fits at hqn hqy
 obtain ⟨key,C,p1,n1,c1,p2,n2,c2,b1,b2,b3,al,ph,got,a1,a2,a3,⟨rk,ri,rs,rl,q1,q2,q3,q4,m1,m2,m3,m4,e1,e2,e3,e4⟩,x1,x2,x3,mx⟩:=r
 obtain ⟨kd,fr,to,mk,mC,d1,d2,d3,ok,f1,f2,f3,mreg,y1,y2,y3,my⟩:=m
 obtain ⟨sk,si,ss',sl,s1,s2,s3,s4,t1,t2,t3,t4,u1,u2,u3,u4⟩:=mr
 simp only at hok hn1 hn2 ho hn hmay hKne hK6 hqn hqy
 subst hok
 obtain ⟨K,hK⟩:∃ K,K=keepC C o n key:=⟨_,rfl⟩
 rw [←hK] at hKne hK6 hqy
 obtain ⟨nk,hnk⟩:∃ m,m=K.length:=⟨_,rfl⟩
 obtain ⟨kb,hkb⟩:∃ b,b=decide (fr∈K):=⟨_,rfl⟩
 obtain ⟨cs,hcs⟩:∃ cs,cs=bytL K:=⟨_,rfl⟩
 refine X.begin (rg:=[]) (N:=[]) (ss:=[.agg (RndG.svs ⟨key,C,p1,n1,c1,p2,n2,c2,b1,b2,b3,al,ph,got,a1,a2,a3,⟨rk,ri,rs,rl,q1,q2,q3,q4,m1,m2,m3,m4,e1,e2,e3,e4⟩,x1,x2,x3,mx⟩),.agg (MsgA.svs ⟨kd,fr,to,mk,mC,d1,d2,d3,false,f1,f2,f3,mreg,y1,y2,y3,my⟩ false ⟨sk,si,ss',sl,s1,s2,s3,s4,t1,t2,t3,t4,u1,u2,u3,u4⟩)]) Tryz.func38 rfl B38_ok rfl rfl Sat.std0 ?_
 by_cases hp1:ph=1
 ·subst hp1
  by_cases hP:kd=2∧mb=true∧mk=key∧(d1=b1∧d2=b2∧d3=b3)∧to=b2
  ·obtain ⟨rfl,rfl,rfl,⟨rfl,rfl,rfl⟩,rfl⟩:=hP
   have hqq:=hqy ⟨.inl ⟨rfl,rfl⟩,rfl,rfl,⟨rfl,rfl,rfl⟩,rfl⟩
   refine X.goX ([(8,.bool (.lit true)),(17,.bool (.lit false)),(25,.bool (.lit true)),(27,.bool (.lit true)),(34,.bool (.lit true)),(41,.bool (.lit true)),(49,.bool (.lit true)),(59,.bool (.v kb))]) ([(56,⟨fun rg=>.osl rg.length 0 nk 1 none,[],[⟨false,cs,none⟩]⟩)]) T38_ok 400 _ rfl Tryz.results38 (fun pr pe fin hpr hpe hfin=>?_)
   conv=>cbv
   refine ⟨hpr _ (vk_eqI rfl rfl rfl),hpr _ (vk_eqN rfl rfl (by decide)),hpr _ (vk_move rfl fun _ N v hv=>by rw [←hv];simp [SV.den,SB.den,SI.den]),hpr _ (.of Tryz.call43 [.agg _] (.bool _) (fun _=>rfl) (fun _=>rfl) fun _ w1 him=>hm w1 him),hpr _ (vk_eqI rfl rfl rfl),hpr _ (vk_binT T38_ok rfl rfl rfl fun _ N v hv=>by rw [←hv];simp [SV.den,SB.den,SI.den,andB,eqI]),hpr _ (vk_eqI rfl rfl rfl),hpe _ _ _ _ _ ?_,hpr _ ?_,hfin _ _ ?_⟩
   ·refine EffOk.call (l:=[.agg [.int .u64 (.nat C),.slv p1 n1 c1,.slv p2 n2 c2],.int .u8 (.v mk)]) rfl Tryz.call67 fun N w1 args hN hS ha=>?_
    have ha:args=[.agg #[.int .u64 C,.slice p1 n1 c1,.slice p2 n2 c2],.int .u8 mk]:=(Option.some.inj ha).symm
    rw [ha]
    refine (ckeepers_ok C p1 p2 n1 n2 c1 c2 o n mk w1 hn1 hn2 (ho.im hS.imm) (hn.im hS.imm) hbo hbn).mono fun e w' hr=>?_
    rw [←hK] at hr
    obtain ⟨N',v,h1,h2,h3,h4⟩:=(hr.ro hKne).sat Nat.one_pos hS
    exact ⟨v,h1,N',h2,by rw [hnk];exact h3,by rw [hcs];exact h4⟩
   ·refine fun _=>⟨Tryz.call66,fun N w1 args hN hS ha=>?_⟩
    obtain ⟨p,hq⟩:∃ p,N[2]?=some p:=⟨_,List.getElem?_eq_getElem (by rw [hS.len];show 2<3;omega)⟩
    have ha:args=[.slice (some ⟨p.b,p.o,none⟩) nk p.x,.int .u8 fr]:=by
     simp only [SV.denL,SV.den,SI.den,hq,Num.cap,Nat.add_zero,Nat.sub_zero,Nat.div_one,Option.some.injEq] at ha
     exact ha.symm
    rw [ha]
    refine (contains8_ok (some ⟨p.b,p.o,none⟩) nk p.x K.toArray fr w1 (by omega) ⟨by simp [hnk],fun h0=>⟨p.b,p.o,rfl,fun j hj=>?_⟩⟩).mono fun e w' ⟨he,hch⟩=>⟨_,he,by rw [hkb];rfl,hch⟩
    have hj:j<K.length:=by simpa using hj
    obtain ⟨v,h1,h2⟩:=hS.cell 2 _ _ rfl hq j (.int .u8 (.v K[j]!)) (by rw [hcs];simp [bytL,hj])
    simp only [SV.den,SI.den,Option.some.injEq] at h1
    rw [h2,←h1]
    simp [hj]
   refine X.done T38_ok rfl (fun N w' v hN hS hv=>⟨fin_bool hv ?_,hS.chg.mono fun k o _ h=>inR_nil h⟩)
   refine den_of ?_
   subst hkb
   rw [hqq]
   simp only [SB.T,SB.F,SI.den,B_iff,decide_eq_true_eq]
   grind
  ·skip
   refine X.goX ([(8,.bool (.lit true)),(17,.bool (.lit false)),(27,.bool (.v mb)),(51,.bool (.lit false))]) ([]) T38_ok 400 _ rfl Tryz.results38 (fun pr pe fin hpr hpe hfin=>?_)
   conv=>cbv
   refine ⟨hpr _ (vk_eqI rfl rfl rfl),hpr _ (vk_eqN rfl rfl (by decide)),hpr _ (.of Tryz.call43 [.agg _] (.bool _) (fun _=>rfl) (fun _=>rfl) fun _ w1 him=>hm w1 him),hpr _ (vk_move rfl fun _ N v hv=>?_),hfin _ _ ?_⟩
   ·rw [←hv]
    simp only [SV.den,SB.den,SI.den,Option.some.injEq,Value.bool.injEq]
    grind
   refine X.done T38_ok rfl (fun N w' v hN hS hv=>⟨fin_bool hv ?_,hS.chg.mono fun k o _ h=>inR_nil h⟩)
   exact (hqn (by grind)).symm
 by_cases hp3:ph=3
 ·subst hp3
  by_cases hP:kd=4∧mb=true∧mk=key∧(d1=b1∧d2=b2∧d3=b3)∧to=b2
  ·obtain ⟨rfl,rfl,rfl,⟨rfl,rfl,rfl⟩,rfl⟩:=hP
   have hqq:=hqy ⟨.inr ⟨rfl,rfl⟩,rfl,rfl,⟨rfl,rfl,rfl⟩,rfl⟩
   refine X.goX ([(8,.bool (.lit false)),(17,.bool (.lit true)),(25,.bool (.lit true)),(27,.bool (.lit true)),(34,.bool (.lit true)),(41,.bool (.lit true)),(49,.bool (.lit true)),(59,.bool (.v kb))]) ([(56,⟨fun rg=>.osl rg.length 0 nk 1 none,[],[⟨false,cs,none⟩]⟩)]) T38_ok 400 _ rfl Tryz.results38 (fun pr pe fin hpr hpe hfin=>?_)
   conv=>cbv
   refine ⟨hpr _ (vk_eqN rfl rfl (by decide)),hpr _ (vk_eqI rfl rfl rfl),hpr _ (vk_move rfl fun _ N v hv=>by rw [←hv];simp [SV.den,SB.den,SI.den]),hpr _ (.of Tryz.call43 [.agg _] (.bool _) (fun _=>rfl) (fun _=>rfl) fun _ w1 him=>hm w1 him),hpr _ (vk_eqI rfl rfl rfl),hpr _ (vk_binT T38_ok rfl rfl rfl fun _ N v hv=>by rw [←hv];simp [SV.den,SB.den,SI.den,andB,eqI]),hpr _ (vk_eqI rfl rfl rfl),hpe _ _ _ _ _ ?_,hpr _ ?_,hfin _ _ ?_⟩
   ·refine EffOk.call (l:=[.agg [.int .u64 (.nat C),.slv p1 n1 c1,.slv p2 n2 c2],.int .u8 (.v mk)]) rfl Tryz.call67 fun N w1 args hN hS ha=>?_
    have ha:args=[.agg #[.int .u64 C,.slice p1 n1 c1,.slice p2 n2 c2],.int .u8 mk]:=(Option.some.inj ha).symm
    rw [ha]
    refine (ckeepers_ok C p1 p2 n1 n2 c1 c2 o n mk w1 hn1 hn2 (ho.im hS.imm) (hn.im hS.imm) hbo hbn).mono fun e w' hr=>?_
    rw [←hK] at hr
    obtain ⟨N',v,h1,h2,h3,h4⟩:=(hr.ro hKne).sat Nat.one_pos hS
    exact ⟨v,h1,N',h2,by rw [hnk];exact h3,by rw [hcs];exact h4⟩
   ·refine fun _=>⟨Tryz.call66,fun N w1 args hN hS ha=>?_⟩
    obtain ⟨p,hq⟩:∃ p,N[2]?=some p:=⟨_,List.getElem?_eq_getElem (by rw [hS.len];show 2<3;omega)⟩
    have ha:args=[.slice (some ⟨p.b,p.o,none⟩) nk p.x,.int .u8 fr]:=by
     simp only [SV.denL,SV.den,SI.den,hq,Num.cap,Nat.add_zero,Nat.sub_zero,Nat.div_one,Option.some.injEq] at ha
     exact ha.symm
    rw [ha]
    refine (contains8_ok (some ⟨p.b,p.o,none⟩) nk p.x K.toArray fr w1 (by omega) ⟨by simp [hnk],fun h0=>⟨p.b,p.o,rfl,fun j hj=>?_⟩⟩).mono fun e w' ⟨he,hch⟩=>⟨_,he,by rw [hkb];rfl,hch⟩
    have hj:j<K.length:=by simpa using hj
    obtain ⟨v,h1,h2⟩:=hS.cell 2 _ _ rfl hq j (.int .u8 (.v K[j]!)) (by rw [hcs];simp [bytL,hj])
    simp only [SV.den,SI.den,Option.some.injEq] at h1
    rw [h2,←h1]
    simp [hj]
   refine X.done T38_ok rfl (fun N w' v hN hS hv=>⟨fin_bool hv ?_,hS.chg.mono fun k o _ h=>inR_nil h⟩)
   refine den_of ?_
   subst hkb
   rw [hqq]
   simp only [SB.T,SB.F,SI.den,B_iff,decide_eq_true_eq]
   grind
  ·skip
   refine X.goX ([(8,.bool (.lit false)),(17,.bool (.lit true)),(27,.bool (.v mb)),(51,.bool (.lit false))]) ([]) T38_ok 400 _ rfl Tryz.results38 (fun pr pe fin hpr hpe hfin=>?_)
   conv=>cbv
   refine ⟨hpr _ (vk_eqN rfl rfl (by decide)),hpr _ (vk_eqI rfl rfl rfl),hpr _ (.of Tryz.call43 [.agg _] (.bool _) (fun _=>rfl) (fun _=>rfl) fun _ w1 him=>hm w1 him),hpr _ (vk_move rfl fun _ N v hv=>?_),hfin _ _ ?_⟩
   ·rw [←hv]
    simp only [SV.den,SB.den,SI.den,Option.some.injEq,Value.bool.injEq]
    grind
   refine X.done T38_ok rfl (fun N w' v hN hS hv=>⟨fin_bool hv ?_,hS.chg.mono fun k o _ h=>inR_nil h⟩)
   exact (hqn (by grind)).symm
 ·skip
  refine X.goX ([(8,.bool (.lit false)),(17,.bool (.lit false))]) ([]) T38_ok 400 _ rfl Tryz.results38 (fun pr pe fin hpr hpe hfin=>?_)
  conv=>cbv
  refine ⟨hpr _ (vk_eqN rfl rfl hp1),hpr _ (vk_eqN rfl rfl hp3),hfin _ _ ?_⟩
  refine X.done T38_ok rfl (fun N w' v hN hS hv=>⟨fin_bool hv ?_,hS.chg.mono fun k o _ h=>inR_nil h⟩)
  exact (hqn (by grind)).symm
theorem belongs_true (r:RndG) (m:MsgA) (mr:RegS) (mb:Bool) (o n:Array Int) (w:World) (hok:m.ok=true) (hn1:r.n1≤100) (hn2:r.n2≤100) (ho:InB r.p1 r.n1 o w) (hn:InB r.p2 r.n2 n w) (hbo:∀ x∈o.toList,0≤x∧x<256) (hbn:∀ x∈n.toList,0≤x∧x<256) (hmay:mayC r.C o n)
  (hm:∀ w1:World,(∀ k o v,elsewhere [] [] w k o=some v→w1.cell? ⟨k,o,none⟩=some v)→Calls Tryz.prog 43 #[.agg (m.vals mr.vals).toArray] w1 fun e w'=>e=.returned (.bool mb)∧Chg (fun _ _=>False) w1 w') :
  Calls Tryz.prog 38 #[.agg r.vals.toArray,.agg (m.vals mr.vals).toArray] w fun e w'=>e=.returned (.bool (belB r m mb o n))∧Chg (fun _ _=>False) w w':=by
 have hKne:=keep_ne (key:=r.key) hmay
 have hK6:=keepC_len r.C o n r.key
 obtain ⟨q,hq⟩:∃ q,q=belB r m mb o n:=⟨_,rfl⟩
 rw [←hq]
 have hqn:¬fits r m mb→q=false:=fun h=>by rw [hq,belB,B_neg fun h2=>h h2.1]
 have hqy:fits r m mb→q=B (m.fr∈keepC r.C o n r.key∧(m.ok=true→m.C=(r.C:Int))):=fun h=>by rw [hq,belB];congr 1;exact propext ⟨fun h2=>h2.2,fun h2=>⟨h,h2⟩⟩
 clear hq
 unfold fits at hqn hqy
 obtain ⟨key,C,p1,n1,c1,p2,n2,c2,b1,b2,b3,al,ph,got,a1,a2,a3,⟨rk,ri,rs,rl,q1,q2,q3,q4,m1,m2,m3,m4,e1,e2,e3,e4⟩,x1,x2,x3,mx⟩:=r
 obtain ⟨kd,fr,to,mk,mC,d1,d2,d3,ok,f1,f2,f3,mreg,y1,y2,y3,my⟩:=m
 obtain ⟨sk,si,ss',sl,s1,s2,s3,s4,t1,t2,t3,t4,u1,u2,u3,u4⟩:=mr
 simp only at hok hn1 hn2 ho hn hmay hKne hK6 hqn hqy
 subst hok
 obtain ⟨K,hK⟩:∃ K,K=keepC C o n key:=⟨_,rfl⟩
 rw [←hK] at hKne hK6 hqy
 obtain ⟨nk,hnk⟩:∃ m,m=K.length:=⟨_,rfl⟩
 obtain ⟨kb,hkb⟩:∃ b,b=decide (fr∈K):=⟨_,rfl⟩
 obtain ⟨cs,hcs⟩:∃ cs,cs=bytL K:=⟨_,rfl⟩
 refine X.begin (rg:=[]) (N:=[]) (ss:=[.agg (RndG.svs ⟨key,C,p1,n1,c1,p2,n2,c2,b1,b2,b3,al,ph,got,a1,a2,a3,⟨rk,ri,rs,rl,q1,q2,q3,q4,m1,m2,m3,m4,e1,e2,e3,e4⟩,x1,x2,x3,mx⟩),.agg (MsgA.svs ⟨kd,fr,to,mk,mC,d1,d2,d3,true,f1,f2,f3,mreg,y1,y2,y3,my⟩ true ⟨sk,si,ss',sl,s1,s2,s3,s4,t1,t2,t3,t4,u1,u2,u3,u4⟩)]) Tryz.func38 rfl B38_ok rfl rfl Sat.std0 ?_
 by_cases hp1:ph=1
 ·subst hp1
  by_cases hP:kd=2∧mb=true∧mk=key∧(d1=b1∧d2=b2∧d3=b3)∧to=b2
  ·obtain ⟨rfl,rfl,rfl,⟨rfl,rfl,rfl⟩,rfl⟩:=hP
   have hqq:=hqy ⟨.inl ⟨rfl,rfl⟩,rfl,rfl,⟨rfl,rfl,rfl⟩,rfl⟩
   refine X.goX ([(8,.bool (.lit true)),(17,.bool (.lit false)),(25,.bool (.lit true)),(27,.bool (.lit true)),(34,.bool (.lit true)),(41,.bool (.lit true)),(49,.bool (.lit true)),(59,.bool (.v kb))]) ([(56,⟨fun rg=>.osl rg.length 0 nk 1 none,[],[⟨false,cs,none⟩]⟩)]) T38_ok 400 _ rfl Tryz.results38 (fun pr pe fin hpr hpe hfin=>?_)
   conv=>cbv
   refine ⟨hpr _ (vk_eqI rfl rfl rfl),hpr _ (vk_eqN rfl rfl (by decide)),hpr _ (vk_move rfl fun _ N v hv=>by rw [←hv];simp [SV.den,SB.den,SI.den]),hpr _ (.of Tryz.call43 [.agg _] (.bool _) (fun _=>rfl) (fun _=>rfl) fun _ w1 him=>hm w1 him),hpr _ (vk_eqI rfl rfl rfl),hpr _ (vk_binT T38_ok rfl rfl rfl fun _ N v hv=>by rw [←hv];simp [SV.den,SB.den,SI.den,andB,eqI]),hpr _ (vk_eqI rfl rfl rfl),hpe _ _ _ _ _ ?_,hpr _ ?_,hfin _ _ ?_⟩
   ·refine EffOk.call (l:=[.agg [.int .u64 (.nat C),.slv p1 n1 c1,.slv p2 n2 c2],.int .u8 (.v mk)]) rfl Tryz.call67 fun N w1 args hN hS ha=>?_
    have ha:args=[.agg #[.int .u64 C,.slice p1 n1 c1,.slice p2 n2 c2],.int .u8 mk]:=(Option.some.inj ha).symm
    rw [ha]
    refine (ckeepers_ok C p1 p2 n1 n2 c1 c2 o n mk w1 hn1 hn2 (ho.im hS.imm) (hn.im hS.imm) hbo hbn).mono fun e w' hr=>?_
    rw [←hK] at hr
    obtain ⟨N',v,h1,h2,h3,h4⟩:=(hr.ro hKne).sat Nat.one_pos hS
    exact ⟨v,h1,N',h2,by rw [hnk];exact h3,by rw [hcs];exact h4⟩
   ·refine fun _=>⟨Tryz.call66,fun N w1 args hN hS ha=>?_⟩
    obtain ⟨p,hq⟩:∃ p,N[2]?=some p:=⟨_,List.getElem?_eq_getElem (by rw [hS.len];show 2<3;omega)⟩
    have ha:args=[.slice (some ⟨p.b,p.o,none⟩) nk p.x,.int .u8 fr]:=by
     simp only [SV.denL,SV.den,SI.den,hq,Num.cap,Nat.add_zero,Nat.sub_zero,Nat.div_one,Option.some.injEq] at ha
     exact ha.symm
    rw [ha]
    refine (contains8_ok (some ⟨p.b,p.o,none⟩) nk p.x K.toArray fr w1 (by omega) ⟨by simp [hnk],fun h0=>⟨p.b,p.o,rfl,fun j hj=>?_⟩⟩).mono fun e w' ⟨he,hch⟩=>⟨_,he,by rw [hkb];rfl,hch⟩
    have hj:j<K.length:=by simpa using hj
    obtain ⟨v,h1,h2⟩:=hS.cell 2 _ _ rfl hq j (.int .u8 (.v K[j]!)) (by rw [hcs];simp [bytL,hj])
    simp only [SV.den,SI.den,Option.some.injEq] at h1
    rw [h2,←h1]
    simp [hj]
   refine X.done T38_ok rfl (fun N w' v hN hS hv=>⟨fin_bool hv ?_,hS.chg.mono fun k o _ h=>inR_nil h⟩)
   refine den_of ?_
   subst hkb
   rw [hqq]
   simp only [SB.T,SB.F,SI.den,B_iff,decide_eq_true_eq]
   grind
  ·skip
   refine X.goX ([(8,.bool (.lit true)),(17,.bool (.lit false)),(27,.bool (.v mb)),(51,.bool (.lit false))]) ([]) T38_ok 400 _ rfl Tryz.results38 (fun pr pe fin hpr hpe hfin=>?_)
   conv=>cbv
   refine ⟨hpr _ (vk_eqI rfl rfl rfl),hpr _ (vk_eqN rfl rfl (by decide)),hpr _ (.of Tryz.call43 [.agg _] (.bool _) (fun _=>rfl) (fun _=>rfl) fun _ w1 him=>hm w1 him),hpr _ (vk_move rfl fun _ N v hv=>?_),hfin _ _ ?_⟩
   ·rw [←hv]
    simp only [SV.den,SB.den,SI.den,Option.some.injEq,Value.bool.injEq]
    grind
   refine X.done T38_ok rfl (fun N w' v hN hS hv=>⟨fin_bool hv ?_,hS.chg.mono fun k o _ h=>inR_nil h⟩)
   exact (hqn (by grind)).symm
 by_cases hp3:ph=3
 ·subst hp3
  by_cases hP:kd=4∧mb=true∧mk=key∧(d1=b1∧d2=b2∧d3=b3)∧to=b2
  ·obtain ⟨rfl,rfl,rfl,⟨rfl,rfl,rfl⟩,rfl⟩:=hP
   have hqq:=hqy ⟨.inr ⟨rfl,rfl⟩,rfl,rfl,⟨rfl,rfl,rfl⟩,rfl⟩
   refine X.goX ([(8,.bool (.lit false)),(17,.bool (.lit true)),(25,.bool (.lit true)),(27,.bool (.lit true)),(34,.bool (.lit true)),(41,.bool (.lit true)),(49,.bool (.lit true)),(59,.bool (.v kb))]) ([(56,⟨fun rg=>.osl rg.length 0 nk 1 none,[],[⟨false,cs,none⟩]⟩)]) T38_ok 400 _ rfl Tryz.results38 (fun pr pe fin hpr hpe hfin=>?_)
   conv=>cbv
   refine ⟨hpr _ (vk_eqN rfl rfl (by decide)),hpr _ (vk_eqI rfl rfl rfl),hpr _ (vk_move rfl fun _ N v hv=>by rw [←hv];simp [SV.den,SB.den,SI.den]),hpr _ (.of Tryz.call43 [.agg _] (.bool _) (fun _=>rfl) (fun _=>rfl) fun _ w1 him=>hm w1 him),hpr _ (vk_eqI rfl rfl rfl),hpr _ (vk_binT T38_ok rfl rfl rfl fun _ N v hv=>by rw [←hv];simp [SV.den,SB.den,SI.den,andB,eqI]),hpr _ (vk_eqI rfl rfl rfl),hpe _ _ _ _ _ ?_,hpr _ ?_,hfin _ _ ?_⟩
   ·refine EffOk.call (l:=[.agg [.int .u64 (.nat C),.slv p1 n1 c1,.slv p2 n2 c2],.int .u8 (.v mk)]) rfl Tryz.call67 fun N w1 args hN hS ha=>?_
    have ha:args=[.agg #[.int .u64 C,.slice p1 n1 c1,.slice p2 n2 c2],.int .u8 mk]:=(Option.some.inj ha).symm
    rw [ha]
    refine (ckeepers_ok C p1 p2 n1 n2 c1 c2 o n mk w1 hn1 hn2 (ho.im hS.imm) (hn.im hS.imm) hbo hbn).mono fun e w' hr=>?_
    rw [←hK] at hr
    obtain ⟨N',v,h1,h2,h3,h4⟩:=(hr.ro hKne).sat Nat.one_pos hS
    exact ⟨v,h1,N',h2,by rw [hnk];exact h3,by rw [hcs];exact h4⟩
   ·refine fun _=>⟨Tryz.call66,fun N w1 args hN hS ha=>?_⟩
    obtain ⟨p,hq⟩:∃ p,N[2]?=some p:=⟨_,List.getElem?_eq_getElem (by rw [hS.len];show 2<3;omega)⟩
    have ha:args=[.slice (some ⟨p.b,p.o,none⟩) nk p.x,.int .u8 fr]:=by
     simp only [SV.denL,SV.den,SI.den,hq,Num.cap,Nat.add_zero,Nat.sub_zero,Nat.div_one,Option.some.injEq] at ha
     exact ha.symm
    rw [ha]
    refine (contains8_ok (some ⟨p.b,p.o,none⟩) nk p.x K.toArray fr w1 (by omega) ⟨by simp [hnk],fun h0=>⟨p.b,p.o,rfl,fun j hj=>?_⟩⟩).mono fun e w' ⟨he,hch⟩=>⟨_,he,by rw [hkb];rfl,hch⟩
    have hj:j<K.length:=by simpa using hj
    obtain ⟨v,h1,h2⟩:=hS.cell 2 _ _ rfl hq j (.int .u8 (.v K[j]!)) (by rw [hcs];simp [bytL,hj])
    simp only [SV.den,SI.den,Option.some.injEq] at h1
    rw [h2,←h1]
    simp [hj]
   refine X.done T38_ok rfl (fun N w' v hN hS hv=>⟨fin_bool hv ?_,hS.chg.mono fun k o _ h=>inR_nil h⟩)
   refine den_of ?_
   subst hkb
   rw [hqq]
   simp only [SB.T,SB.F,SI.den,B_iff,decide_eq_true_eq]
   grind
  ·skip
   refine X.goX ([(8,.bool (.lit false)),(17,.bool (.lit true)),(27,.bool (.v mb)),(51,.bool (.lit false))]) ([]) T38_ok 400 _ rfl Tryz.results38 (fun pr pe fin hpr hpe hfin=>?_)
   conv=>cbv
   refine ⟨hpr _ (vk_eqN rfl rfl (by decide)),hpr _ (vk_eqI rfl rfl rfl),hpr _ (.of Tryz.call43 [.agg _] (.bool _) (fun _=>rfl) (fun _=>rfl) fun _ w1 him=>hm w1 him),hpr _ (vk_move rfl fun _ N v hv=>?_),hfin _ _ ?_⟩
   ·rw [←hv]
    simp only [SV.den,SB.den,SI.den,Option.some.injEq,Value.bool.injEq]
    grind
   refine X.done T38_ok rfl (fun N w' v hN hS hv=>⟨fin_bool hv ?_,hS.chg.mono fun k o _ h=>inR_nil h⟩)
   exact (hqn (by grind)).symm
 ·skip
  refine X.goX ([(8,.bool (.lit false)),(17,.bool (.lit false))]) ([]) T38_ok 400 _ rfl Tryz.results38 (fun pr pe fin hpr hpe hfin=>?_)
  conv=>cbv
  refine ⟨hpr _ (vk_eqN rfl rfl hp1),hpr _ (vk_eqN rfl rfl hp3),hfin _ _ ?_⟩
  refine X.done T38_ok rfl (fun N w' v hN hS hv=>⟨fin_bool hv ?_,hS.chg.mono fun k o _ h=>inR_nil h⟩)
  exact (hqn (by grind)).symm
theorem rbegin_ok (al:Bool) (key:Int) (C:Nat) (po pn:Option Addr) (no nn co cn:Nat) (o n:Array Int) (b1 b2 b3:Int) (w:World) (hno:no≤100) (hnn:nn≤100) (ho:InB po no o w) (hn:InB pn nn n w) (hbo:∀ x∈o.toList,0≤x∧x<256) (hbn:∀ x∈n.toList,0≤x∧x<256) :
  Calls Tryz.prog 46 #[.agg #[.int .u64 C,.slice po no co,.slice pn nn cn],.int .u8 key,.agg #[.int .u64 b1,.int .u8 b2,.int .u32 b3],.bool al] w fun e w' =>
   (begP C o n key b1 b2 b3∧e=.returned (.tuple #[rndAV al key C po no co pn nn cn b1 b2 b3 1 0,.int .i64 0])∨¬begP C o n key b1 b2 b3∧e=.returned (.tuple #[rndZV,.int .i64 1]))∧Chg (fun _ _=>False) w w':=by
 obtain ⟨Q,hQ⟩:∃ Q:Ending→World→Prop,Q=fun e w'=>(begP C o n key b1 b2 b3∧e=.returned (.tuple #[rndAV al key C po no co pn nn cn b1 b2 b3 1 0,.int .i64 0])∨¬begP C o n key b1 b2 b3∧e=.returned (.tuple #[rndZV,.int .i64 1]))∧Chg (fun _ _=>False) w w':=⟨_,rfl⟩
 rw [←hQ]
 refine X.begin (rg:=[]) (N:=[]) (ss:=[.agg [.int .u64 (.nat C),.slv po no co,.slv pn nn cn],.int .u8 (.v key),.agg [.int .u64 (.v b1),.int .u8 (.v b2),.int .u32 (.v b3)],.bool (.lit al)]) Tryz.func46 rfl B46_ok rfl rfl Sat.std0 ?_
 obtain ⟨mb,hmb⟩:∃ b,b=B (mayC C o n):=⟨_,rfl⟩
 have hmc:∀ w1:World,(∀ k o v,elsewhere [] [] w k o=some v→w1.cell? ⟨k,o,none⟩=some v)→Calls Tryz.prog 7 #[.agg #[.int .u64 C,.slice po no co,.slice pn nn cn]] w1 fun e w'=>e=.returned (.bool mb)∧Chg (fun _ _=>False) w1 w':=fun w1 him=>by
  rw [hmb];exact cmay10_ok C po pn no nn co cn o n w1 (by omega) (by omega) (ho.im him) (hn.im him)
 cases mb
 ·skip
  refine X.goX ([(11,.bool (.lit false))]) ([]) T46_ok 400 _ rfl Tryz.results46 (fun pr pe fin hpr hpe hfin=>?_)
  conv=>cbv
  refine ⟨hpr _ (.of Tryz.call7 [.agg #[.int .u64 C,.slice po no co,.slice pn nn cn]] (.bool false) (fun _=>rfl) (fun _=>rfl) fun _ w1 him=>hmc w1 him),hfin _ _ ?_⟩
  refine X.done T46_ok rfl (fun N w' v hN hS hv=>?_)
  rw [hQ]
  refine ⟨.inr ⟨fun h=>?_,?_⟩,hS.chg.none⟩
  ·rw [B_pos h.1] at hmb;cases hmb
  ·rw [←(Option.some.inj hv:_=v)]
   rfl
 have hmay:mayC C o n:=B_iff.1 hmb.symm
 refine X.goX ([(11,.bool (.lit true))]) ([]) T46_ok 400 _ rfl Tryz.results46 (fun pr pe fin hpr hpe hfin=>?_)
 conv=>cbv
 refine ⟨hpr _ (.of Tryz.call7 [.agg #[.int .u64 C,.slice po no co,.slice pn nn cn]] (.bool true) (fun _=>rfl) (fun _=>rfl) fun _ w1 him=>hmc w1 him),hfin _ _ ?_⟩
 clear hpr hpe hfin
 refine X.cond rfl (fun hT=>?_) (fun hF=>?_)
 ·simp only [SB.T,SB.F,SI.den] at hT
  refine X.go T46_ok 400 _ rfl Tryz.results46 ?_
  conv=>arg 2;cbv
  refine X.done T46_ok rfl (fun N w' v hN hS hv=>?_)
  rw [hQ]
  refine ⟨.inr ⟨fun ⟨_,h2,h3,h4⟩=>?_,?_⟩,hS.chg.none⟩
  ·omega
  ·rw [←(Option.some.inj hv:_=v)]
   rfl
 simp only [SB.T,SB.F,SI.den] at hF
 refine X.go T46_ok 400 _ rfl Tryz.results46 ?_
 conv=>arg 2;cbv
 refine X.done T46_ok rfl (fun N w' v hN hS hv=>?_)
 rw [hQ]
 refine ⟨.inl ⟨⟨hmay,by omega,by omega,by omega⟩,?_⟩,hS.chg.none⟩
 rw [←(Option.some.inj hv:_=v)]
 rfl
def sameG (r r':RndG) (cb rb:Bool):Prop:=r.key=r'.key∧(r.b1=r'.b1∧r.b2=r'.b2∧r.b3=r'.b3)∧r.al=r'.al∧r.ph=r'.ph∧r.got=r'.got∧(r.a1=r'.a1∧r.a2=r'.a2∧r.a3=r'.a3)∧(r.x1=r'.x1∧r.x2=r'.x2∧r.x3=r'.x3)∧r.mx=r'.mx∧cb=true∧rb=true
theorem rsame_ok (r r':RndG) (cb rb:Bool) (w:World)
  (hc:∀ w1:World,(∀ k o v,elsewhere [] [] w k o=some v→w1.cell? ⟨k,o,none⟩=some v)→Calls Tryz.prog 47 #[.agg #[.int .u64 r.C,.slice r.p1 r.n1 r.c1,.slice r.p2 r.n2 r.c2],.agg #[.int .u64 r'.C,.slice r'.p1 r'.n1 r'.c1,.slice r'.p2 r'.n2 r'.c2]] w1 fun e w'=>e=.returned (.bool cb)∧Chg (fun _ _=>False) w1 w')
  (hr:∀ w1:World,(∀ k o v,elsewhere [] [] w k o=some v→w1.cell? ⟨k,o,none⟩=some v)→Calls Tryz.prog 48 #[.agg r.reg.vals.toArray,.agg r'.reg.vals.toArray] w1 fun e w'=>e=.returned (.bool rb)∧Chg (fun _ _=>False) w1 w') :
  Calls Tryz.prog 18 #[.agg r.vals.toArray,.agg r'.vals.toArray] w fun e w'=>e=.returned (.bool (B (sameG r r' cb rb)))∧Chg (fun _ _=>False) w w':=by
 obtain ⟨q,hq⟩:∃ q,q=B (sameG r r' cb rb):=⟨_,rfl⟩
 rw [←hq]
 unfold sameG at hq
 obtain ⟨key,C,p1,n1,c1,p2,n2,c2,b1,b2,b3,al,ph,got,a1,a2,a3,⟨rk,ri,rs,rl,q1,q2,q3,q4,m1,m2,m3,m4,e1,e2,e3,e4⟩,x1,x2,x3,mx⟩:=r
 obtain ⟨key',C',p1',n1',c1',p2',n2',c2',b1',b2',b3',al',ph',got',a1',a2',a3',⟨rk',ri',rs',rl',q1',q2',q3',q4',m1',m2',m3',m4',e1',e2',e3',e4'⟩,x1',x2',x3',mx'⟩:=r'
 simp only at hq
 refine X.begin (rg:=[]) (N:=[]) (ss:=[.agg (RndG.svs ⟨key,C,p1,n1,c1,p2,n2,c2,b1,b2,b3,al,ph,got,a1,a2,a3,⟨rk,ri,rs,rl,q1,q2,q3,q4,m1,m2,m3,m4,e1,e2,e3,e4⟩,x1,x2,x3,mx⟩),.agg (RndG.svs ⟨key',C',p1',n1',c1',p2',n2',c2',b1',b2',b3',al',ph',got',a1',a2',a3',⟨rk',ri',rs',rl',q1',q2',q3',q4',m1',m2',m3',m4',e1',e2',e3',e4'⟩,x1',x2',x3',mx'⟩)]) Tryz.func18 rfl B18_ok rfl rfl Sat.std0 ?_
 refine X.goX ([(64,.bool (.v cb)),(71,.bool (.v rb))]) ([]) T18_ok 400 _ rfl Tryz.results18 (fun pr pe fin hpr hpe hfin=>?_)
 conv=>cbv
 refine ⟨hpr _ (.of Tryz.call47 [.agg _,.agg _] (.bool _) (fun _=>rfl) (fun _=>rfl) fun _ w1 him=>hc w1 him),hpr _ (.of Tryz.call48 [.agg _,.agg _] (.bool _) (fun _=>rfl) (fun _=>rfl) fun _ w1 him=>hr w1 him),hfin _ _ ?_⟩
 refine X.done T18_ok rfl (fun N w' v hN hS hv=>⟨fin_bool hv ?_,hS.chg.mono fun k o _ h=>inR_nil h⟩)
 refine den_of ?_
 rw [hq]
 have hg:((got:Int)=(got':Int))↔got=got':=by omega
 simp only [SB.T,SB.F,SB.den,SI.den,B_iff,and_assoc,hg]
theorem rknown_ok (al:Bool) (key:Int) (C:Nat) (po pn:Option Addr) (no nn co cn:Nat) (o n:Array Int) (b1 b2 b3:Int) (g:RegS) (gm:Bool) (w:World) (hno:no≤100) (hnn:nn≤100) (ho:InB po no o w) (hn:InB pn nn n w) (hbo:∀ x∈o.toList,0≤x∧x<256) (hbn:∀ x∈n.toList,0≤x∧x<256)
  (hg:∀ w1:World,(∀ k o v,elsewhere [] [] w k o=some v→w1.cell? ⟨k,o,none⟩=some v)→Calls Tryz.prog 79 #[.agg g.vals.toArray] w1 fun e w'=>e=.returned (.bool gm)∧Chg (fun _ _=>False) w1 w') :
  Calls Tryz.prog 45 #[.agg #[.int .u64 C,.slice po no co,.slice pn nn cn],.int .u8 key,.agg #[.int .u64 b1,.int .u8 b2,.int .u32 b3],.agg g.vals.toArray,.bool al] w fun e w' =>
   ((begP C o n key b1 b2 b3∧gm=true)∧e=.returned (.tuple #[.agg (RndG.vals ⟨key,C,po,no,co,pn,nn,cn,b1,b2,b3,al,2,0,0,0,0,g,0,0,0,0⟩).toArray,.int .i64 0])∨¬(begP C o n key b1 b2 b3∧gm=true)∧e=.returned (.tuple #[rndZV,.int .i64 1]))∧Chg (fun _ _=>False) w w':=by
 obtain ⟨Q,hQ⟩:∃ Q:Ending→World→Prop,Q=fun e w'=>((begP C o n key b1 b2 b3∧gm=true)∧e=.returned (.tuple #[.agg (RndG.vals ⟨key,C,po,no,co,pn,nn,cn,b1,b2,b3,al,2,0,0,0,0,g,0,0,0,0⟩).toArray,.int .i64 0])∨¬(begP C o n key b1 b2 b3∧gm=true)∧e=.returned (.tuple #[rndZV,.int .i64 1]))∧Chg (fun _ _=>False) w w':=⟨_,rfl⟩
 rw [←hQ]
 obtain ⟨rk,ri,rs,rl,q1,q2,q3,q4,m1,m2,m3,m4,e1,e2,e3,e4⟩:=g
 refine X.begin (rg:=[]) (N:=[]) (ss:=[.agg [.int .u64 (.nat C),.slv po no co,.slv pn nn cn],.int .u8 (.v key),.agg [.int .u64 (.v b1),.int .u8 (.v b2),.int .u32 (.v b3)],.agg (RegS.svs ⟨rk,ri,rs,rl,q1,q2,q3,q4,m1,m2,m3,m4,e1,e2,e3,e4⟩),.bool (.lit al)]) Tryz.func45 rfl B45_ok rfl rfl Sat.std0 ?_
 refine X.go T45_ok 400 _ rfl Tryz.results45 ?_
 conv=>arg 2;cbv
 refine X.call rfl rfl rfl rfl Tryz.call46 (fun N w1 args hN hS ha=>?_)
 have ha:args=[.agg #[.int .u64 C,.slice po no co,.slice pn nn cn],.int .u8 key,.agg #[.int .u64 b1,.int .u8 b2,.int .u32 b3],.bool al]:=(Option.some.inj ha).symm
 rw [ha]
 refine (rbegin_ok al key C po pn no nn co cn o n b1 b2 b3 w1 hno hnn (ho.stays hS.chg.none) (hn.stays hS.chg.none) hbo hbn).mono fun e w2 hR=>?_
 obtain ⟨⟨hgood,he⟩ | ⟨hbad,he⟩,hch⟩:=hR
 ·refine ⟨_,he,Goes.same hN hS hch (r:=.tup [.agg (rndO al key C (.slv po no co) (.slv pn nn cn) b1 b2 b3 1),.int .i64 (.lit 0)]) rfl rfl ?_⟩
  clear hch he ha hS hN
  refine X.goX ([(26,.bool (.v gm))]) ([]) T45_ok 400 _ rfl Tryz.results45 (fun pr pe fin hpr hpe hfin=>?_)
  conv=>cbv
  refine ⟨hpr _ (.of Tryz.call79 [.agg _] (.bool _) (fun _=>rfl) (fun _=>rfl) fun _ w1 him=>hg w1 him),hfin _ _ ?_⟩
  clear hpr hpe hfin
  refine X.cond rfl (fun hT=>?_) (fun hF=>?_)
  ·simp only [SB.T,SB.F,SI.den] at hT
   refine X.go T45_ok 400 _ rfl Tryz.results45 ?_
   conv=>arg 2;cbv
   refine X.done T45_ok rfl (fun N w' v hN hS hv=>?_)
   rw [hQ]
   refine ⟨.inr ⟨fun h=>(by rw [h.2] at hT;cases hT),?_⟩,hS.chg.none⟩
   rw [←(Option.some.inj hv:_=v)]
   rfl
  ·simp only [SB.T,SB.F,SI.den] at hF
   refine X.go T45_ok 400 _ rfl Tryz.results45 ?_
   conv=>arg 2;cbv
   refine X.done T45_ok rfl (fun N w' v hN hS hv=>?_)
   rw [hQ]
   refine ⟨.inl ⟨⟨hgood,hF⟩,?_⟩,hS.chg.none⟩
   rw [←(Option.some.inj hv:_=v)]
   rfl
 ·refine ⟨_,he,Goes.same hN hS hch (r:=.tup [.agg rndZS,.int .i64 (.lit 1)]) rfl rfl ?_⟩
  clear hch he ha hS hN
  refine X.go T45_ok 400 _ rfl Tryz.results45 ?_
  conv=>arg 2;cbv
  refine X.done T45_ok rfl (fun N w' v hN hS hv=>?_)
  rw [hQ]
  refine ⟨.inr ⟨fun h=>hbad h.1,?_⟩,hS.chg.none⟩
  rw [←(Option.some.inj hv:_=v)]
  rfl
end Go.Proofs.YthaffebapmkppaaGreat
namespace Go.Eng
open Go
section
variable {E:Ctx} {T:Tab} {all:Array Oper} {z:Nat} {zs:List Nat} {k:List It} {s:St} {o:Oper} {f:Fr} {rg0:List Rg} {ks:List Nat}
theorem GoesI.newMem {N:Nums} {d:Option Nat} {v:Value} {w w':World} (hN:E.N0.le N) (h:Sat E.toEnv N s.rg w) (hc:Chg (fun _ _=>False) w w') {r:SV} (hr:r.den N=some v) {f':Fr} (hp:putO E.n s.fr d (.val r)=some f') (ha:Agree ks rg0 s.rg)
  (hx:(∀ k o u,E.im k o=some u→imNew E.im w w' k o=some u)→(∀ k o u,w.heap.size≤k→w'.cell? ⟨k,o,none⟩=some u→imNew E.im w w' k o=some u)→XI rg0 ks all k zs { E with im:=imNew E.im w w' } ⟨f',s.rg⟩):GoesI rg0 ks all k zs E N s.fr d v w':=by
 have h':=h.after0 hc
 exact ⟨{ E with im:=imNew E.im w w' },N,r,s.rg,f',rfl,rfl,rfl,rfl,Nums.le.refl N,hN,Sat.newMem h h',hr,hp,ha,hx (fun k o u hu=>imNew_old hu) (fun k o u hk hu=>imNew_new h'.imm hk hu)⟩
def stepI (o:Option St) (fin:St→Prop):Prop:=match o with
 | some s=>fin s
 | none=>False
theorem XI.ex (hT:TabOk E.P T) (n:Nat) (hn:E.n=n) (h:stepI (opE T n all z s) fun s'=>Agree ks rg0 s'.rg∧XI rg0 ks all k zs E s'):XI rg0 ks all k (z::zs) E s:=by
 subst hn
 unfold stepI at h
 split at h
 ·rename_i s1 hs
  exact XI.opEq hT ⟨hs⟩ h.1 h.2
 ·exact h.elim
end
end Go.Eng
namespace Go.Proofs.YthaffebapmkppaaGreat
open Go Go.Eng Go.Sort
theorem RegS.of {a:RegP} {M:Mem} {vb:List Value} (h:RepL M a.toD vb):∃ g:RegS,vb=g.vals:=by
 obtain ⟨p1,c1,p2,c2,p3,c3,p4,c4,rfl,_⟩:=RegP.open h
 exact ⟨⟨a.kind,a.inc,a.state,a.last,p1,p2,p3,p4,_,_,_,_,c1,c2,c3,c4⟩,rfl⟩
theorem belongs_any (r:RndG) (m:MsgA) (mr:RegS) (o n:Array Int) (w:World) (hreg:RepL (wm w) m.reg.toD mr.vals) (hn1:r.n1≤100) (hn2:r.n2≤100) (ho:InB r.p1 r.n1 o w) (hn:InB r.p2 r.n2 n w) (hbo:∀ x∈o.toList,0≤x∧x<256) (hbn:∀ x∈n.toList,0≤x∧x<256) (hmay:mayC r.C o n) :
  Calls Tryz.prog 38 #[.agg r.vals.toArray,.agg (m.vals mr.vals).toArray] w fun e w'=>e=.returned (.bool (belB r m m.pmay o n))∧Chg (fun _ _=>False) w w':=by
 cases hok:m.ok
 ·refine belongs_false r m mr _ o n w hok hn1 hn2 ho hn hbo hbn hmay fun w1 him=>?_
  obtain ⟨kd,fr,to,mk,mC,d1,d2,d3,ok,f1,f2,f3,mreg,y1,y2,y3,my⟩:=m
  obtain rfl:ok=false:=hok
  exact msgMay_false kd fr to mk mC d1 d2 d3 f1 f2 f3 mreg mr.vals y1 y2 y3 my w1 (hreg.later (im:=elsewhere [] [] w) rfl him)
 ·refine belongs_true r m mr _ o n w hok hn1 hn2 ho hn hbo hbn hmay fun w1 him=>?_
  obtain ⟨kd,fr,to,mk,mC,d1,d2,d3,ok,f1,f2,f3,mreg,y1,y2,y3,my⟩:=m
  obtain rfl:ok=true:=hok
  exact msgMay_true kd fr to mk mC d1 d2 d3 f1 f2 f3 mreg mr.vals y1 y2 y3 my w1 (hreg.later (im:=elsewhere [] [] w) rfl him)
def RndG.put (r:RndG) (ph:Int) (got:Nat) (a1 a2 a3:Int) (g:RegS) (mx:Int):RndG:=⟨r.key,r.C,r.p1,r.n1,r.c1,r.p2,r.n2,r.c2,r.b1,r.b2,r.b3,r.al,ph,got,a1,a2,a3,g,r.x1,r.x2,r.x3,mx⟩
def ToldR (r:RndG) (m:MsgA) (Mo:Mem) (bel:Bool) (w:World):Ending→World→Prop:=fun e w' =>
 (∃ (ph:Int) (got:Nat) (a1 a2 a3:Int) (g:RegS) (mx:Int),e=.returned (.agg (r.put ph got a1 a2 a3 g mx).vals.toArray)∧got<2 ^ 64∧(bel=false→r.put ph got a1 a2 a3 g mx=r)∧(g=r.reg∨∀ M:Mem,(∀ k o v,Mo k o=some v→M k o=some v)→(∀ k o v,w.heap.size≤k→w'.cell? ⟨k,o,none⟩=some v→M k o=some v)→RepL M m.reg.toD g.vals))∧Chg (fun _ _=>False) w w'
def RndG.svsA (r:RndG) (al:SB) (ph:SI):List SV:=[.int .u8 (.v r.key),.int .u64 (.nat r.C),.slv r.p1 r.n1 r.c1,.slv r.p2 r.n2 r.c2,.int .u64 (.v r.b1),.int .u8 (.v r.b2),.int .u32 (.v r.b3),.bool al,.int .u8 ph,.int .u64 (.nat r.got),.int .u64 (.v r.a1),.int .u8 (.v r.a2),.int .u32 (.v r.a3)]++(r.reg.svs++[.int .u64 (.v r.x1),.int .u8 (.v r.x2),.int .u32 (.v r.x3),.int .u64 (.v r.mx)])
theorem told_any (r:RndG) (m:MsgA) (mr:RegS) (Mo:Mem) (o n:Array Int) (w:World) (hMo:∀ k o v,Mo k o=some v→w.cell? ⟨k,o,none⟩=some v) (hreg:RepL Mo m.reg.toD mr.vals) (hgr:¬m.reg.great) (hn1:r.n1≤100) (hn2:r.n2≤100) (ho:InB r.p1 r.n1 o w) (hn:InB r.p2 r.n2 n w) (hbo:∀ x∈o.toList,0≤x∧x<256) (hbn:∀ x∈n.toList,0≤x∧x<256) (hmay:mayC r.C o n) (hgot:r.got<2 ^ 64) :
  Calls Tryz.prog 14 #[.agg r.vals.toArray,.agg (m.vals mr.vals).toArray] w (ToldR r m Mo (belB r m m.pmay o n) w):=by
 obtain ⟨bb,hbb⟩:∃ b,b=belB r m m.pmay o n:=⟨_,rfl⟩
 have hMo':∀ k o v,Mo k o=some v→elsewhere [] [] w k o=some v:=fun k o v h=>his (hMo k o v h)
 have hbel:∀ w1:World,(∀ k o v,elsewhere [] [] w k o=some v→w1.cell? ⟨k,o,none⟩=some v)→Calls Tryz.prog 38 #[.agg r.vals.toArray,.agg (m.vals mr.vals).toArray] w1 fun e w'=>e=.returned (.bool bb)∧Chg (fun _ _=>False) w1 w':=fun w1 him=>by
  rw [hbb]
  exact belongs_any r m mr o n w1 (hreg.mono fun k o v h=>him _ _ _ (hMo' _ _ _ h)) hn1 hn2 (ho.im him) (hn.im him) hbo hbn hmay
 rw [←hbb]
 obtain ⟨Q,hQ⟩:∃ Q:Ending→World→Prop,Q=ToldR r m Mo bb w:=⟨_,rfl⟩
 rw [←hQ]
 cases bb
 ·clear hbb
  obtain ⟨key,C,p1,n1,c1,p2,n2,c2,b1,b2,b3,al,ph,got,a1,a2,a3,⟨rk,ri,rs,rl,q1,q2,q3,q4,m1,m2,m3,m4,e1,e2,e3,e4⟩,x1,x2,x3,mx⟩:=r
  obtain ⟨kd,fr,to,mk,mC,d1,d2,d3,ok,f1,f2,f3,mreg,y1,y2,y3,my⟩:=m
  obtain ⟨sk,si,ss',sl,s1,s2,s3,s4,t1,t2,t3,t4,u1,u2,u3,u4⟩:=mr
  cases ok
  ·skip
   refine X.begin (rg:=[]) (N:=[]) (ss:=[.agg (RndG.svsA ⟨key,C,p1,n1,c1,p2,n2,c2,b1,b2,b3,al,ph,got,a1,a2,a3,⟨rk,ri,rs,rl,q1,q2,q3,q4,m1,m2,m3,m4,e1,e2,e3,e4⟩,x1,x2,x3,mx⟩ (.v al) (.v ph)),.agg (MsgA.svs ⟨kd,fr,to,mk,mC,d1,d2,d3,false,f1,f2,f3,mreg,y1,y2,y3,my⟩ false ⟨sk,si,ss',sl,s1,s2,s3,s4,t1,t2,t3,t4,u1,u2,u3,u4⟩)]) Tryz.func14 rfl B14_ok rfl rfl Sat.std0 ?_
   refine X.goX ([(7,.bool (.lit false))]) ([]) T14_ok 400 _ rfl Tryz.results14 (fun pr pe fin hpr hpe hfin=>?_)
   conv=>cbv
   refine ⟨hpr _ (.of Tryz.call38 [.agg _,.agg _] (.bool _) (fun _=>rfl) (fun _=>rfl) fun _ w1 him=>hbel w1 him),hfin _ _ ?_⟩
   refine X.done T14_ok rfl (fun N w' v hN hS hv=>?_)
   rw [hQ]
   refine ⟨⟨ph,got,a1,a2,a3,⟨rk,ri,rs,rl,q1,q2,q3,q4,m1,m2,m3,m4,e1,e2,e3,e4⟩,mx,?_,hgot,fun _=>rfl,.inl rfl⟩,hS.chg.none⟩
   rw [←(Option.some.inj hv:_=v)]
   rfl
  ·skip
   refine X.begin (rg:=[]) (N:=[]) (ss:=[.agg (RndG.svsA ⟨key,C,p1,n1,c1,p2,n2,c2,b1,b2,b3,al,ph,got,a1,a2,a3,⟨rk,ri,rs,rl,q1,q2,q3,q4,m1,m2,m3,m4,e1,e2,e3,e4⟩,x1,x2,x3,mx⟩ (.v al) (.v ph)),.agg (MsgA.svs ⟨kd,fr,to,mk,mC,d1,d2,d3,true,f1,f2,f3,mreg,y1,y2,y3,my⟩ true ⟨sk,si,ss',sl,s1,s2,s3,s4,t1,t2,t3,t4,u1,u2,u3,u4⟩)]) Tryz.func14 rfl B14_ok rfl rfl Sat.std0 ?_
   refine X.goX ([(7,.bool (.lit false))]) ([]) T14_ok 400 _ rfl Tryz.results14 (fun pr pe fin hpr hpe hfin=>?_)
   conv=>cbv
   refine ⟨hpr _ (.of Tryz.call38 [.agg _,.agg _] (.bool _) (fun _=>rfl) (fun _=>rfl) fun _ w1 him=>hbel w1 him),hfin _ _ ?_⟩
   refine X.done T14_ok rfl (fun N w' v hN hS hv=>?_)
   rw [hQ]
   refine ⟨⟨ph,got,a1,a2,a3,⟨rk,ri,rs,rl,q1,q2,q3,q4,m1,m2,m3,m4,e1,e2,e3,e4⟩,mx,?_,hgot,fun _=>rfl,.inl rfl⟩,hS.chg.none⟩
   rw [←(Option.some.inj hv:_=v)]
   rfl
 have hfit:fits r m m.pmay∧m.fr∈keepC r.C o n r.key∧(m.ok=true→m.C=(r.C:Int)):=B_iff.1 hbb.symm
 have h64:=keepC_64 hmay hbo hbn m.fr hfit.2.1
 have hph:=hfit.1.1
 clear hfit hbb
 obtain ⟨key,C,p1,n1,c1,p2,n2,c2,b1,b2,b3,al,ph,got,a1,a2,a3,⟨rk,ri,rs,rl,q1,q2,q3,q4,m1,m2,m3,m4,e1,e2,e3,e4⟩,x1,x2,x3,mx⟩:=r
 obtain ⟨kd,fr,to,mk,mC,d1,d2,d3,ok,f1,f2,f3,mreg,y1,y2,y3,my⟩:=m
 obtain ⟨sk,si,ss',sl,s1,s2,s3,s4,t1,t2,t3,t4,u1,u2,u3,u4⟩:=mr
 simp only at hn1 hn2 ho hn hmay hgot hreg hgr h64 hph
 cases ok
 ·skip
  refine X.begin (rg:=[]) (N:=[]) (ss:=[.agg (RndG.svsA ⟨key,C,p1,n1,c1,p2,n2,c2,b1,b2,b3,al,ph,got,a1,a2,a3,⟨rk,ri,rs,rl,q1,q2,q3,q4,m1,m2,m3,m4,e1,e2,e3,e4⟩,x1,x2,x3,mx⟩ (.v al) (.v ph)),.agg (MsgA.svs ⟨kd,fr,to,mk,mC,d1,d2,d3,false,f1,f2,f3,mreg,y1,y2,y3,my⟩ false ⟨sk,si,ss',sl,s1,s2,s3,s4,t1,t2,t3,t4,u1,u2,u3,u4⟩)]) Tryz.func14 rfl B14_ok rfl rfl Sat.std0 ?_
  refine X.goX ([(7,.bool (.lit true))]) ([]) T14_ok 400 _ rfl Tryz.results14 (fun pr pe fin hpr hpe hfin=>?_)
  conv=>cbv
  refine ⟨hpr _ (.of Tryz.call38 [.agg _,.agg _] (.bool _) (fun _=>rfl) (fun _=>rfl) fun _ w1 him=>hbel w1 him),?_⟩
  repeat (first | refine ⟨rfl,?_⟩ | refine ⟨⟨_,_,rfl,rfl⟩,?_⟩ | refine ⟨⟨rfl,_,_,rfl,rfl⟩,?_⟩)
  refine hfin _ _ ?_
  refine X.done T14_ok rfl (fun N w' v hN hS hv=>?_)
  rw [hQ]
  refine ⟨⟨5,got,a1,a2,a3,⟨rk,ri,rs,rl,q1,q2,q3,q4,m1,m2,m3,m4,e1,e2,e3,e4⟩,my,?_,hgot,(nofun),.inl rfl⟩,hS.chg.none⟩
  rw [←(Option.some.inj hv:_=v)]
  rfl
 obtain ⟨tw,ht2⟩:∃ t,t=2 ^ fr.toNat:=⟨_,rfl⟩
 have ht64:tw<2 ^ 64:=by rw [ht2];exact Nat.pow_lt_pow_right (by decide) (by omega)
 have hor:=bits_or got tw hgot ht64
 obtain ⟨g2,hg2⟩:∃ g,g=got ||| tw:=⟨_,rfl⟩
 have hg64:g2<2 ^ 64:=by rw [hg2];exact Nat.or_lt_two_pow hgot ht64
 rw [←hg2] at hor
 obtain ⟨qb,hqb⟩:∃ b,b=B (quoC C o n key g2):=⟨_,rfl⟩
 obtain ⟨ab,hab⟩:∃ b,b=B (allC C o n key g2):=⟨_,rfl⟩
 have hquo:∀ w1:World,(∀ k o v,elsewhere [] [] w k o=some v→w1.cell? ⟨k,o,none⟩=some v)→Calls Tryz.prog 40 #[.agg #[.int .u64 C,.slice p1 n1 c1,.slice p2 n2 c2],.int .u8 key,.int .u64 g2] w1 fun e w'=>e=.returned (.bool qb)∧Chg (fun _ _=>False) w1 w':=fun w1 him=>by
  rw [hqb]
  exact quorum_ok C g2 p1 p2 n1 n2 c1 c2 o n key w1 hn1 hn2 hg64 (ho.im him) (hn.im him) hbo hbn
 have hall:∀ w1:World,(∀ k o v,elsewhere [] [] w k o=some v→w1.cell? ⟨k,o,none⟩=some v)→Calls Tryz.prog 39 #[.agg #[.int .u64 C,.slice p1 n1 c1,.slice p2 n2 c2],.int .u8 key,.int .u64 g2] w1 fun e w'=>e=.returned (.bool ab)∧Chg (fun _ _=>False) w1 w':=fun w1 him=>by
  rw [hab]
  exact all_ok C g2 p1 p2 n1 n2 c1 c2 o n key w1 hn1 hn2 hg64 (ho.im him) (hn.im him) hbo hbn
 clear hqb hab
 rcases hph with ⟨rfl,-⟩ | ⟨rfl,-⟩
 ·obtain ⟨c,hc⟩:∃ c,c=or3 (cmp3 f1 a1) (cmp3 f2 a2) (cmp3 f3 a3):=⟨_,rfl⟩
  refine X.begin (rg:=[]) (N:=[]) (ss:=[.agg (RndG.svsA ⟨key,C,p1,n1,c1,p2,n2,c2,b1,b2,b3,al,1,got,a1,a2,a3,⟨rk,ri,rs,rl,q1,q2,q3,q4,m1,m2,m3,m4,e1,e2,e3,e4⟩,x1,x2,x3,mx⟩ (.v al) (.lit 1)),.agg (MsgA.svs ⟨kd,fr,to,mk,mC,d1,d2,d3,true,f1,f2,f3,mreg,y1,y2,y3,my⟩ true ⟨sk,si,ss',sl,s1,s2,s3,s4,t1,t2,t3,t4,u1,u2,u3,u4⟩)]) Tryz.func14 rfl B14_ok rfl rfl Sat.std0 ?_
  refine X.goX ([(7,.bool (.lit true)),(22,.int .u64 (.nat tw)),(23,.int .u64 (.nat g2)),(59,.int .i64 (.v c))]) ([]) T14_ok 400 _ rfl Tryz.results14 (fun pr pe fin hpr hpe hfin=>?_)
  conv=>cbv
  refine ⟨hpr _ (.of Tryz.call38 [.agg _,.agg _] (.bool _) (fun _=>rfl) (fun _=>rfl) fun _ w1 him=>hbel w1 him),hpr _ (by rw [ht2];exact vk_shl1 rfl rfl rfl rfl (fun _=>by show fr=_;omega) (by omega)),hpr _ (vk_bin rfl rfl rfl fun _ N v hv=>by rw [←hv];show some (Value.int .u64 (g2:Nat))=some (Value.int .u64 (bitsI .or .u64 got tw));rw [hor]),hpr _ (.of Tryz.call41 [.agg #[.int .u64 f1,.int .u8 f2,.int .u32 f3],.agg #[.int .u64 a1,.int .u8 a2,.int .u32 a3]] (.int .i64 c) (fun _=>rfl) (fun _=>rfl) fun _ w1 him=>by rw [hc];exact bcompare_ok f1 f2 f3 a1 a2 a3 w1),hfin _ _ ?_⟩
  clear hpr hpe hfin
  refine X.cond rfl (fun hT=>?_) (fun hF=>?_)
  ·clear hT
   refine X.drawnI (fn:=Tryz.f14) T14_ok noCall (idxG 77 []) 4 [6,7,8] [0] 5 rfl (by kernel_rfl) rfl noCall_ok (idxG_ok [] rfl (fun q hq=>absurd hq List.not_mem_nil)) 77 rfl ?_
   generalize hfin:(fun s'=>XI _ _ _ _ _ (mkE Tryz.prog Tryz.f14 Q w (InR [] []) (elsewhere [] [] w) (fun _ _=>False) (fun _=>True) [] B14) s')=fin
   conv=>cbv
   subst hfin
   show XI _ _ _ _ _ (mkE Tryz.prog Tryz.f14 Q w (InR [] []) (elsewhere [] [] w) (fun _ _=>False) (fun _=>True) [] B14) _
   refine XI.call rfl rfl rfl rfl Tryz.call42 (fun N w1 args hN hS ha=>?_)
   obtain rfl:args=[.agg (RegS.vals ⟨sk,si,ss',sl,s1,s2,s3,s4,t1,t2,t3,t4,u1,u2,u3,u4⟩).toArray]:=(Option.some.inj ha).symm
   refine (regClone_ok mreg _ Mo w1 (fun k o v h=>hS.imm _ _ _ (hMo' _ _ _ h)) hreg hgr).mono fun e w2 hR=>?_
   obtain ⟨⟨vb,he,hmem⟩,hch⟩:=hR
   obtain ⟨gs,hgs⟩:=RegS.of (hmem (fun k o=>w2.cell? ⟨k,o,none⟩) (fun k o v h=>(hS.after0 hch).imm _ _ _ (hMo' _ _ _ h)) (fun k o v _ h=>h))
   subst hgs
   obtain ⟨gk,gi,gs',gl,g1,g2',g3,g4,k1,k2,k3,k4,l1,l2,l3,l4⟩:=gs
   refine ⟨_,he,GoesI.newMem hN hS hch (r:=.agg (RegS.svs ⟨gk,gi,gs',gl,g1,g2',g3,g4,k1,k2,k3,k4,l1,l2,l3,l4⟩)) rfl rfl (fun r g hg _=>hg) (fun hold hnew=>?_)⟩
   have hmem':∀ M:Mem,(∀ k o v,Mo k o=some v→M k o=some v)→(∀ k o v,w.heap.size≤k→imNew (elsewhere [] [] w) w1 w2 k o=some v→M k o=some v)→RepL M mreg.toD (RegS.vals ⟨gk,gi,gs',gl,g1,g2',g3,g4,k1,k2,k3,k4,l1,l2,l3,l4⟩):=fun M h1 h2 =>
    hmem M h1 fun k o v hk h=>h2 k o v (Nat.le_trans hS.chg.size hk) (hnew _ _ _ hk h)
   obtain ⟨im,him⟩:∃ im,im=imNew (elsewhere [] [] w) w1 w2:=⟨_,rfl⟩
   have hold':∀ k o v,elsewhere [] [] w k o=some v→im k o=some v:=by rw [him];exact hold
   show XI _ _ _ _ _ (mkE Tryz.prog Tryz.f14 Q w (InR [] []) (imNew (elsewhere [] [] w) w1 w2) (fun _ _=>False) (fun _=>True) [] B14) _
   rw [←him] at hmem' ⊢
   clear him hold hnew hch he ha hS hN hmem
   have agr:∀ {g0 g0' a b:Rg},Agree [0] [g0,a,b] [g0',a,b]:=fun r g hg hm=>by
    match r,hg with
    | 0,hg=>cases hm
    | 1,hg=>exact hg
    | 2,hg=>exact hg
    | r+3,hg=>simp at hg
   refine XI.ex T14_ok 77 rfl ?_
   generalize hfin:(fun s':St=>Agree _ _ s'.rg∧XI _ _ _ _ _ (mkE Tryz.prog Tryz.f14 Q w (InR [] []) im (fun _ _=>False) (fun _=>True) [] B14) s')=fin
   conv=>cbv
   subst hfin
   refine ⟨agr,?_⟩
   refine XI.quiet T14_ok agr 77 rfl ?_
   generalize hfin:(fun s':St=>XI _ _ _ _ _ (mkE Tryz.prog Tryz.f14 Q w (InR [] []) im (fun _ _=>False) (fun _=>True) [] B14) s')=fin
   conv=>cbv
   subst hfin
   refine XI.ex T14_ok 77 rfl ?_
   generalize hfin:(fun s':St=>Agree _ _ s'.rg∧XI _ _ _ _ _ (mkE Tryz.prog Tryz.f14 Q w (InR [] []) im (fun _ _=>False) (fun _=>True) [] B14) s')=fin
   conv=>cbv
   subst hfin
   refine ⟨agr,XI.done ?_⟩
   cases qb
   ·skip
    refine X.goX ([(74,.bool (.lit false))]) ([]) T14_ok 400 _ rfl Tryz.results14 (fun pr pe fin hpr hpe hfin=>?_)
    conv=>cbv
    refine ⟨hpr _ (.of Tryz.call40 [.agg #[.int .u64 C,.slice p1 n1 c1,.slice p2 n2 c2],.int .u8 key,.int .u64 g2] (.bool false) (fun _=>rfl) (fun _=>rfl) fun _ w1 him=>hquo w1 (fun k o v h=>him k o v (hold' k o v h))),hfin _ _ ?_⟩
    refine X.done T14_ok rfl (fun N w' v hN hS hv=>?_)
    rw [hQ]
    refine ⟨⟨1,g2,f1,f2,f3,⟨gk,gi,gs',gl,g1,g2',g3,g4,k1,k2,k3,k4,l1,l2,l3,l4⟩,mx,?_,hg64,(nofun),.inr fun M h1 h2=>hmem' M h1 fun k o v hk h=>h2 k o v hk (hS.imm _ _ _ h)⟩,hS.chg.none⟩
    rw [←(Option.some.inj hv:_=v)]
    rfl
   ·skip
    refine X.goX ([(74,.bool (.lit true))]) ([]) T14_ok 400 _ rfl Tryz.results14 (fun pr pe fin hpr hpe hfin=>?_)
    conv=>cbv
    refine ⟨hpr _ (.of Tryz.call40 [.agg #[.int .u64 C,.slice p1 n1 c1,.slice p2 n2 c2],.int .u8 key,.int .u64 g2] (.bool true) (fun _=>rfl) (fun _=>rfl) fun _ w1 him=>hquo w1 (fun k o v h=>him k o v (hold' k o v h))),hfin _ _ ?_⟩
    refine X.done T14_ok rfl (fun N w' v hN hS hv=>?_)
    rw [hQ]
    refine ⟨⟨2,g2,f1,f2,f3,⟨gk,gi,gs',gl,g1,g2',g3,g4,k1,k2,k3,k4,l1,l2,l3,l4⟩,mx,?_,hg64,(nofun),.inr fun M h1 h2=>hmem' M h1 fun k o v hk h=>h2 k o v hk (hS.imm _ _ _ h)⟩,hS.chg.none⟩
    rw [←(Option.some.inj hv:_=v)]
    rfl
  ·clear hF
   cases qb
   ·skip
    refine X.goX ([(74,.bool (.lit false))]) ([]) T14_ok 400 _ rfl Tryz.results14 (fun pr pe fin hpr hpe hfin=>?_)
    conv=>cbv
    refine ⟨hpr _ (.of Tryz.call40 [.agg #[.int .u64 C,.slice p1 n1 c1,.slice p2 n2 c2],.int .u8 key,.int .u64 g2] (.bool false) (fun _=>rfl) (fun _=>rfl) fun _ w1 him=>hquo w1 him),hfin _ _ ?_⟩
    refine X.done T14_ok rfl (fun N w' v hN hS hv=>?_)
    rw [hQ]
    refine ⟨⟨1,g2,a1,a2,a3,⟨rk,ri,rs,rl,q1,q2,q3,q4,m1,m2,m3,m4,e1,e2,e3,e4⟩,mx,?_,hg64,(nofun),.inl rfl⟩,hS.chg.none⟩
    rw [←(Option.some.inj hv:_=v)]
    rfl
   ·skip
    refine X.goX ([(74,.bool (.lit true))]) ([]) T14_ok 400 _ rfl Tryz.results14 (fun pr pe fin hpr hpe hfin=>?_)
    conv=>cbv
    refine ⟨hpr _ (.of Tryz.call40 [.agg #[.int .u64 C,.slice p1 n1 c1,.slice p2 n2 c2],.int .u8 key,.int .u64 g2] (.bool true) (fun _=>rfl) (fun _=>rfl) fun _ w1 him=>hquo w1 him),hfin _ _ ?_⟩
    refine X.done T14_ok rfl (fun N w' v hN hS hv=>?_)
    rw [hQ]
    refine ⟨⟨2,g2,a1,a2,a3,⟨rk,ri,rs,rl,q1,q2,q3,q4,m1,m2,m3,m4,e1,e2,e3,e4⟩,mx,?_,hg64,(nofun),.inl rfl⟩,hS.chg.none⟩
    rw [←(Option.some.inj hv:_=v)]
    rfl
 ·cases al
  ·cases qb
   ·skip
    refine X.begin (rg:=[]) (N:=[]) (ss:=[.agg (RndG.svsA ⟨key,C,p1,n1,c1,p2,n2,c2,b1,b2,b3,false,3,got,a1,a2,a3,⟨rk,ri,rs,rl,q1,q2,q3,q4,m1,m2,m3,m4,e1,e2,e3,e4⟩,x1,x2,x3,mx⟩ (.lit false) (.lit 3)),.agg (MsgA.svs ⟨kd,fr,to,mk,mC,d1,d2,d3,true,f1,f2,f3,mreg,y1,y2,y3,my⟩ true ⟨sk,si,ss',sl,s1,s2,s3,s4,t1,t2,t3,t4,u1,u2,u3,u4⟩)]) Tryz.func14 rfl B14_ok rfl rfl Sat.std0 ?_
    refine X.goX ([(7,.bool (.lit true)),(22,.int .u64 (.nat tw)),(23,.int .u64 (.nat g2)),(50,.bool (.lit false))]) ([]) T14_ok 400 _ rfl Tryz.results14 (fun pr pe fin hpr hpe hfin=>?_)
    conv=>cbv
    refine ⟨hpr _ (.of Tryz.call38 [.agg _,.agg _] (.bool _) (fun _=>rfl) (fun _=>rfl) fun _ w1 him=>hbel w1 him),hpr _ (by rw [ht2];exact vk_shl1 rfl rfl rfl rfl (fun _=>by show fr=_;omega) (by omega)),hpr _ (vk_bin rfl rfl rfl fun _ N v hv=>by rw [←hv];show some (Value.int .u64 (g2:Nat))=some (Value.int .u64 (bitsI .or .u64 got tw));rw [hor]),hpr _ (.of Tryz.call40 [.agg #[.int .u64 C,.slice p1 n1 c1,.slice p2 n2 c2],.int .u8 key,.int .u64 g2] (.bool false) (fun _=>rfl) (fun _=>rfl) fun _ w1 him=>hquo w1 him),hfin _ _ ?_⟩
    refine X.done T14_ok rfl (fun N w' v hN hS hv=>?_)
    rw [hQ]
    refine ⟨⟨3,g2,a1,a2,a3,⟨rk,ri,rs,rl,q1,q2,q3,q4,m1,m2,m3,m4,e1,e2,e3,e4⟩,mx,?_,hg64,(nofun),.inl rfl⟩,hS.chg.none⟩
    rw [←(Option.some.inj hv:_=v)]
    rfl
   ·skip
    refine X.begin (rg:=[]) (N:=[]) (ss:=[.agg (RndG.svsA ⟨key,C,p1,n1,c1,p2,n2,c2,b1,b2,b3,false,3,got,a1,a2,a3,⟨rk,ri,rs,rl,q1,q2,q3,q4,m1,m2,m3,m4,e1,e2,e3,e4⟩,x1,x2,x3,mx⟩ (.lit false) (.lit 3)),.agg (MsgA.svs ⟨kd,fr,to,mk,mC,d1,d2,d3,true,f1,f2,f3,mreg,y1,y2,y3,my⟩ true ⟨sk,si,ss',sl,s1,s2,s3,s4,t1,t2,t3,t4,u1,u2,u3,u4⟩)]) Tryz.func14 rfl B14_ok rfl rfl Sat.std0 ?_
    refine X.goX ([(7,.bool (.lit true)),(22,.int .u64 (.nat tw)),(23,.int .u64 (.nat g2)),(50,.bool (.lit true))]) ([]) T14_ok 400 _ rfl Tryz.results14 (fun pr pe fin hpr hpe hfin=>?_)
    conv=>cbv
    refine ⟨hpr _ (.of Tryz.call38 [.agg _,.agg _] (.bool _) (fun _=>rfl) (fun _=>rfl) fun _ w1 him=>hbel w1 him),hpr _ (by rw [ht2];exact vk_shl1 rfl rfl rfl rfl (fun _=>by show fr=_;omega) (by omega)),hpr _ (vk_bin rfl rfl rfl fun _ N v hv=>by rw [←hv];show some (Value.int .u64 (g2:Nat))=some (Value.int .u64 (bitsI .or .u64 got tw));rw [hor]),hpr _ (.of Tryz.call40 [.agg #[.int .u64 C,.slice p1 n1 c1,.slice p2 n2 c2],.int .u8 key,.int .u64 g2] (.bool true) (fun _=>rfl) (fun _=>rfl) fun _ w1 him=>hquo w1 him),hfin _ _ ?_⟩
    refine X.done T14_ok rfl (fun N w' v hN hS hv=>?_)
    rw [hQ]
    refine ⟨⟨4,g2,a1,a2,a3,⟨rk,ri,rs,rl,q1,q2,q3,q4,m1,m2,m3,m4,e1,e2,e3,e4⟩,mx,?_,hg64,(nofun),.inl rfl⟩,hS.chg.none⟩
    rw [←(Option.some.inj hv:_=v)]
    rfl
  ·cases ab
   ·skip
    refine X.begin (rg:=[]) (N:=[]) (ss:=[.agg (RndG.svsA ⟨key,C,p1,n1,c1,p2,n2,c2,b1,b2,b3,true,3,got,a1,a2,a3,⟨rk,ri,rs,rl,q1,q2,q3,q4,m1,m2,m3,m4,e1,e2,e3,e4⟩,x1,x2,x3,mx⟩ (.lit true) (.lit 3)),.agg (MsgA.svs ⟨kd,fr,to,mk,mC,d1,d2,d3,true,f1,f2,f3,mreg,y1,y2,y3,my⟩ true ⟨sk,si,ss',sl,s1,s2,s3,s4,t1,t2,t3,t4,u1,u2,u3,u4⟩)]) Tryz.func14 rfl B14_ok rfl rfl Sat.std0 ?_
    refine X.goX ([(7,.bool (.lit true)),(22,.int .u64 (.nat tw)),(23,.int .u64 (.nat g2)),(37,.bool (.lit false))]) ([]) T14_ok 400 _ rfl Tryz.results14 (fun pr pe fin hpr hpe hfin=>?_)
    conv=>cbv
    refine ⟨hpr _ (.of Tryz.call38 [.agg _,.agg _] (.bool _) (fun _=>rfl) (fun _=>rfl) fun _ w1 him=>hbel w1 him),hpr _ (by rw [ht2];exact vk_shl1 rfl rfl rfl rfl (fun _=>by show fr=_;omega) (by omega)),hpr _ (vk_bin rfl rfl rfl fun _ N v hv=>by rw [←hv];show some (Value.int .u64 (g2:Nat))=some (Value.int .u64 (bitsI .or .u64 got tw));rw [hor]),hpr _ (.of Tryz.call39 [.agg #[.int .u64 C,.slice p1 n1 c1,.slice p2 n2 c2],.int .u8 key,.int .u64 g2] (.bool false) (fun _=>rfl) (fun _=>rfl) fun _ w1 him=>hall w1 him),hfin _ _ ?_⟩
    refine X.done T14_ok rfl (fun N w' v hN hS hv=>?_)
    rw [hQ]
    refine ⟨⟨3,g2,a1,a2,a3,⟨rk,ri,rs,rl,q1,q2,q3,q4,m1,m2,m3,m4,e1,e2,e3,e4⟩,mx,?_,hg64,(nofun),.inl rfl⟩,hS.chg.none⟩
    rw [←(Option.some.inj hv:_=v)]
    rfl
   ·skip
    refine X.begin (rg:=[]) (N:=[]) (ss:=[.agg (RndG.svsA ⟨key,C,p1,n1,c1,p2,n2,c2,b1,b2,b3,true,3,got,a1,a2,a3,⟨rk,ri,rs,rl,q1,q2,q3,q4,m1,m2,m3,m4,e1,e2,e3,e4⟩,x1,x2,x3,mx⟩ (.lit true) (.lit 3)),.agg (MsgA.svs ⟨kd,fr,to,mk,mC,d1,d2,d3,true,f1,f2,f3,mreg,y1,y2,y3,my⟩ true ⟨sk,si,ss',sl,s1,s2,s3,s4,t1,t2,t3,t4,u1,u2,u3,u4⟩)]) Tryz.func14 rfl B14_ok rfl rfl Sat.std0 ?_
    refine X.goX ([(7,.bool (.lit true)),(22,.int .u64 (.nat tw)),(23,.int .u64 (.nat g2)),(37,.bool (.lit true))]) ([]) T14_ok 400 _ rfl Tryz.results14 (fun pr pe fin hpr hpe hfin=>?_)
    conv=>cbv
    refine ⟨hpr _ (.of Tryz.call38 [.agg _,.agg _] (.bool _) (fun _=>rfl) (fun _=>rfl) fun _ w1 him=>hbel w1 him),hpr _ (by rw [ht2];exact vk_shl1 rfl rfl rfl rfl (fun _=>by show fr=_;omega) (by omega)),hpr _ (vk_bin rfl rfl rfl fun _ N v hv=>by rw [←hv];show some (Value.int .u64 (g2:Nat))=some (Value.int .u64 (bitsI .or .u64 got tw));rw [hor]),hpr _ (.of Tryz.call39 [.agg #[.int .u64 C,.slice p1 n1 c1,.slice p2 n2 c2],.int .u8 key,.int .u64 g2] (.bool true) (fun _=>rfl) (fun _=>rfl) fun _ w1 him=>hall w1 him),hfin _ _ ?_⟩
    refine X.done T14_ok rfl (fun N w' v hN hS hv=>?_)
    rw [hQ]
    refine ⟨⟨4,g2,a1,a2,a3,⟨rk,ri,rs,rl,q1,q2,q3,q4,m1,m2,m3,m4,e1,e2,e3,e4⟩,mx,?_,hg64,(nofun),.inl rfl⟩,hS.chg.none⟩
    rw [←(Option.some.inj hv:_=v)]
    rfl
def gZ:RegS:=⟨0,0,0,0,none,none,none,none,0,0,0,0,0,0,0,0⟩
def RndG.wr (r:RndG):RndG:=⟨r.key,r.C,r.p1,r.n1,r.c1,r.p2,r.n2,r.c2,r.b1,r.b2,r.b3,r.al,3,0,r.a1,r.a2,r.a3,gZ,0,0,0,r.mx⟩
def RndG.svsW (r:RndG):List SV:=[.int .u8 (.v r.key),.int .u64 (.nat r.C),.slv r.p1 r.n1 r.c1,.slv r.p2 r.n2 r.c2,.int .u64 (.v r.b1),.int .u8 (.v r.b2),.int .u32 (.v r.b3),.bool (.v r.al),.int .u8 (.lit 3),.int .u64 (.lit 0),.int .u64 (.v r.a1),.int .u8 (.v r.a2),.int .u32 (.v r.a3)]++(regZ++[.int .u64 (.lit 0),.int .u8 (.lit 0),.int .u32 (.lit 0),.int .u64 (.v r.mx)])
theorem messageG_ok (r:RndG) (w:World):Calls Tryz.prog 44 #[.agg r.wr.vals.toArray,.int .u8 3,.int .u8 0] w fun e w'=>e=.returned (msgV 3 r.b2 0 r.key r.C r.b1 r.b2 r.b3 false)∧Chg (fun _ _=>False) w w':=by
 obtain ⟨key,C,p1,n1,c1,p2,n2,c2,b1,b2,b3,al,ph,got,a1,a2,a3,g,x1,x2,x3,mx⟩:=r
 refine X.begin (rg:=[]) (N:=[]) (ss:=[.agg (RndG.svsW ⟨key,C,p1,n1,c1,p2,n2,c2,b1,b2,b3,al,ph,got,a1,a2,a3,g,x1,x2,x3,mx⟩),.int .u8 (.lit 3),.int .u8 (.lit 0)]) Tryz.func44 rfl B44_ok rfl rfl Sat.std0 ?_
 refine X.goX ([(25,.agg regZ)]) ([]) T44_ok 400 _ rfl Tryz.results44 (fun pr pe fin hpr hpe hfin=>?_)
 conv=>cbv
 refine ⟨hpr _ (.of Tryz.call42 [regZV] regZV (fun _=>rfl) (fun _=>rfl) fun _ w1 him=>cloneZ_ok w1),rfl,rfl,hfin _ _ ?_⟩
 refine X.done T44_ok rfl (fun N w' v hN hS hv=>⟨?_,hS.chg.none⟩)
 rw [←(Option.some.inj hv:_=v)]
 rfl
theorem writeG_ok (r:RndG) (w:World) (hk:r.key<16) (hb2:r.b2<64) (hb:¬(r.b1=0∧r.b2=0∧r.b3=0)) (hph:r.ph=2) :
  Calls Tryz.prog 15 #[.agg r.vals.toArray,regZV,balZV] w fun e w'=>e=.returned (.tuple #[.agg r.wr.vals.toArray,.int .i64 0])∧Chg (fun _ _=>False) w w':=by
 have hms:=messageG_ok r
 obtain ⟨key,C,p1,n1,c1,p2,n2,c2,b1,b2,b3,al,ph,got,a1,a2,a3,⟨rk,ri,rs,rl,q1,q2,q3,q4,m1,m2,m3,m4,e1,e2,e3,e4⟩,x1,x2,x3,mx⟩:=r
 simp only at hk hb2 hb hph
 subst hph
 refine X.begin (rg:=[]) (N:=[]) (ss:=[.agg (RndG.svsA ⟨key,C,p1,n1,c1,p2,n2,c2,b1,b2,b3,al,2,got,a1,a2,a3,⟨rk,ri,rs,rl,q1,q2,q3,q4,m1,m2,m3,m4,e1,e2,e3,e4⟩,x1,x2,x3,mx⟩ (.v al) (.lit 2)),.agg regZ,.agg balZ]) Tryz.func15 rfl B15_ok rfl rfl Sat.std0 ?_
 refine X.goX ([(21,msgS (.lit 3) (.v b2) (.lit 0) (.v key) C b1 b2 b3 false),(22,.bool (.lit true)),(26,.agg regZ)]) ([]) T15_ok 400 _ rfl Tryz.results15 (fun pr pe fin hpr hpe hfin=>?_)
 conv=>cbv
 refine ⟨rfl,rfl,rfl,rfl,hpr _ ?_,hpr _ ?_,hpr _ ?_,hfin _ _ ?_⟩
 ·exact .of Tryz.call44 [.agg _,.int .u8 3,.int .u8 0] (msgV 3 b2 0 key C b1 b2 b3 false) (fun _=>rfl) (fun _=>rfl) fun _ w1 him=>hms w1
 ·refine .of Tryz.call43 [msgV 3 b2 0 key C b1 b2 b3 false] (.bool true) (fun _=>rfl) (fun _=>rfl) fun _ w1 him=>?_
  exact may3_ok key C b1 b2 b3 w1 hk hb2 hb
 ·refine .of Tryz.call42 [regZV] regZV (fun _=>rfl) (fun _=>rfl) fun _ w1 him=>?_
  exact cloneZ_ok w1
 refine X.done T15_ok rfl (fun N w' v hN hS hv=>⟨?_,hS.chg.none⟩)
 rw [←(Option.some.inj hv:_=v)]
 rfl
def KnoR (al:Bool) (C:Nat) (o n:Array Int) (key b1 b2 b3:Int) (a:RegP) (Mo:Mem) (w:World):Ending→World→Prop:=fun e w' =>
 ((begP C o n key b1 b2 b3∧(∃ p1 n1 c1 p2 n2 c2 g,e=.returned (.tuple #[.agg (RndG.vals ⟨key,C,p1,n1,c1,p2,n2,c2,b1,b2,b3,al,2,0,0,0,0,g,0,0,0,0⟩).toArray,.int .i64 0])∧∀ M:Mem,(∀ k o v,Mo k o=some v→M k o=some v)→(∀ k o v,w.heap.size≤k→w'.cell? ⟨k,o,none⟩=some v→M k o=some v)→InM p1 n1 o.toList M∧InM p2 n2 n.toList M∧RepL M a.toD g.vals)) ∨
  e=.returned (.tuple #[rndZV,.int .i64 1]))∧Chg (fun _ _=>False) w w'
theorem knownG_ok (al:Bool) (key:Int) (C:Nat) (po pn:Option Addr) (no nn co cn:Nat) (o n:Array Int) (b1 b2 b3:Int) (a:RegP) (g:RegS) (Mo:Mem) (w:World) (hMo:∀ k o v,Mo k o=some v→w.cell? ⟨k,o,none⟩=some v) (ha:RepL Mo a.toD g.vals) (hgr:¬a.great) (hno:no≤100) (hnn:nn≤100) (ho:InB po no o w) (hn:InB pn nn n w) (hbo:∀ x∈o.toList,0≤x∧x<256) (hbn:∀ x∈n.toList,0≤x∧x<256) :
  Calls Tryz.prog 19 #[.agg #[.int .u64 C,.slice po no co,.slice pn nn cn],.int .u8 key,.agg #[.int .u64 b1,.int .u8 b2,.int .u32 b3],.agg g.vals.toArray,.bool al] w (KnoR al C o n key b1 b2 b3 a Mo w):=by
 obtain ⟨Q,hQ⟩:∃ Q:Ending→World→Prop,Q=KnoR al C o n key b1 b2 b3 a Mo w:=⟨_,rfl⟩
 rw [←hQ]
 have hMo':∀ k o v,Mo k o=some v→elsewhere [] [] w k o=some v:=fun k o v h=>his (hMo k o v h)
 obtain ⟨rk,ri,rs,rl,q1,q2,q3,q4,m1,m2,m3,m4,e1,e2,e3,e4⟩:=g
 refine X.begin (rg:=[]) (N:=[]) (ss:=[.agg [.int .u64 (.nat C),.slv po no co,.slv pn nn cn],.int .u8 (.v key),.agg [.int .u64 (.v b1),.int .u8 (.v b2),.int .u32 (.v b3)],.agg (RegS.svs ⟨rk,ri,rs,rl,q1,q2,q3,q4,m1,m2,m3,m4,e1,e2,e3,e4⟩),.bool (.lit al)]) Tryz.func19 rfl B19_ok rfl rfl Sat.std0 ?_
 refine X.go T19_ok 400 _ rfl Tryz.results19 ?_
 conv=>arg 2;cbv
 refine X.call rfl rfl rfl rfl Tryz.call11 (fun N w1 args hN hS ha'=>?_)
 have ha':args=[.agg #[.int .u64 C,.slice po no co,.slice pn nn cn],.int .u8 key,.agg #[.int .u64 b1,.int .u8 b2,.int .u32 b3],.bool al]:=(Option.some.inj ha').symm
 rw [ha']
 refine (begin_ok al key C po pn no nn co cn o n b1 b2 b3 w1 hno hnn (ho.stays hS.chg.none) (hn.stays hS.chg.none) hbo hbn).mono fun e w2 hR=>?_
 obtain ⟨⟨hgood,p1,n1,c1,p2,n2,c2,he,hmem⟩ | ⟨hbad,he⟩,hch⟩:=hR
 ·refine ⟨_,he,Goes.newMem hN hS hch (r:=.tup [.agg (rndO al key C (.slv p1 n1 c1) (.slv p2 n2 c2) b1 b2 b3 1),.int .i64 (.lit 0)]) rfl rfl (fun hold hnew=>?_)⟩
  obtain ⟨im,him⟩:∃ im,im=imNew (elsewhere [] [] w) w1 w2:=⟨_,rfl⟩
  obtain ⟨M',hM'⟩:∃ M':Mem,M'=fun k o=>if w1.heap.size≤k then w2.cell? ⟨k,o,none⟩ else none:=⟨_,rfl⟩
  have hin:=hmem M' fun k o v hk h=>by rw [hM'];simp [hk,h]
  have hMim:∀ k o v,M' k o=some v→w.heap.size≤k∧im k o=some v:=fun k o v h=>by
   rw [hM'] at h
   by_cases hk:w1.heap.size≤k
   ·simp only [hk,if_true] at h
    exact ⟨Nat.le_trans hS.chg.size hk,by rw [him];exact hnew _ _ _ hk h⟩
   ·simp [hk] at h
  have hMi:∀ k o v,Mo k o=some v→im k o=some v:=fun k o v h=>by rw [him];exact hold _ _ _ (hMo' _ _ _ h)
  show X (mkE Tryz.prog Tryz.f19 Q w (InR [] []) (imNew (elsewhere [] [] w) w1 w2) (fun _ _=>False) (fun _=>True) [] B19) _ _
  rw [←him]
  clear him hold hnew hch he ha' hS hN hmem hM'
  obtain ⟨mb,hmb⟩:∃ b,b=B a.pmay:=⟨_,rfl⟩
  have hmay:∀ w1:World,(∀ k o v,im k o=some v→w1.cell? ⟨k,o,none⟩=some v)→Calls Tryz.prog 49 #[.agg (RegS.vals ⟨rk,ri,rs,rl,q1,q2,q3,q4,m1,m2,m3,m4,e1,e2,e3,e4⟩).toArray] w1 fun e w'=>e=.returned (.bool mb)∧Chg (fun _ _=>False) w1 w':=fun w1 hi=>by
   rw [hmb]
   exact pmay_ok a _ w1 (ha.mono fun k o v h=>hi _ _ _ (hMi _ _ _ h))
  cases mb
  ·skip
   refine X.goX ([(26,.bool (.lit false))]) ([]) T19_ok 400 _ rfl Tryz.results19 (fun pr pe fin hpr hpe hfin=>?_)
   conv=>cbv
   refine ⟨hpr _ (.of Tryz.call49 [.agg _] (.bool _) (fun _=>rfl) (fun _=>rfl) fun _ w1 hi=>hmay w1 hi),hfin _ _ ?_⟩
   refine X.done T19_ok rfl (fun N w' v hN hS hv=>?_)
   rw [hQ]
   refine ⟨.inr ?_,hS.chg.none⟩
   rw [←(Option.some.inj hv:_=v)]
   rfl
  ·skip
   refine X.goX ([(26,.bool (.lit true))]) ([]) T19_ok 400 _ rfl Tryz.results19 (fun pr pe fin hpr hpe hfin=>?_)
   conv=>cbv
   refine ⟨hpr _ (.of Tryz.call49 [.agg _] (.bool _) (fun _=>rfl) (fun _=>rfl) fun _ w1 hi=>hmay w1 hi),hfin _ _ ?_⟩
   clear hpr hpe hfin
   refine X.call rfl rfl rfl rfl Tryz.call42 (fun N w1 args hN hS ha'=>?_)
   obtain rfl:args=[.agg (RegS.vals ⟨rk,ri,rs,rl,q1,q2,q3,q4,m1,m2,m3,m4,e1,e2,e3,e4⟩).toArray]:=(Option.some.inj ha').symm
   refine (regClone_ok a _ Mo w1 (fun k o v h=>hS.imm _ _ _ (hMi _ _ _ h)) ha hgr).mono fun e w2 hR=>?_
   obtain ⟨⟨vb,he,hmem⟩,hch⟩:=hR
   obtain ⟨gs,hgs⟩:=RegS.of (hmem (fun k o=>w2.cell? ⟨k,o,none⟩) (fun k o v h=>(hS.after0 hch).imm _ _ _ (hMi _ _ _ h)) (fun k o v _ h=>h))
   subst hgs
   obtain ⟨gk,gi,gs',gl,g1,g2',g3,g4,k1,k2,k3,k4,l1,l2,l3,l4⟩:=gs
   refine ⟨_,he,Goes.newMem hN hS hch (r:=.agg (RegS.svs ⟨gk,gi,gs',gl,g1,g2',g3,g4,k1,k2,k3,k4,l1,l2,l3,l4⟩)) rfl rfl (fun hold hnew=>?_)⟩
   have hmem':∀ M:Mem,(∀ k o v,Mo k o=some v→M k o=some v)→(∀ k o v,w.heap.size≤k→imNew im w1 w2 k o=some v→M k o=some v)→RepL M a.toD (RegS.vals ⟨gk,gi,gs',gl,g1,g2',g3,g4,k1,k2,k3,k4,l1,l2,l3,l4⟩):=fun M h1 h2 =>
    hmem M h1 fun k o v hk h=>h2 k o v (Nat.le_trans hS.chg.size hk) (hnew _ _ _ hk h)
   have hMim2:∀ k o v,M' k o=some v→w.heap.size≤k∧imNew im w1 w2 k o=some v:=fun k o v h=>⟨(hMim k o v h).1,hold _ _ _ (hMim k o v h).2⟩
   obtain ⟨im2,him2⟩:∃ im2,im2=imNew im w1 w2:=⟨_,rfl⟩
   show X (mkE Tryz.prog Tryz.f19 Q w (InR [] []) (imNew im w1 w2) (fun _ _=>False) (fun _=>True) [] B19) _ _
   rw [←him2] at hmem' hMim2 ⊢
   clear him2 hold hnew hch he ha' hS hN hmem
   refine X.go T19_ok 400 _ rfl Tryz.results19 ?_
   conv=>arg 2;cbv
   refine X.done T19_ok rfl (fun N w' v hN hS hv=>?_)
   rw [hQ]
   refine ⟨.inl ⟨hgood,p1,n1,c1,p2,n2,c2,⟨gk,gi,gs',gl,g1,g2',g3,g4,k1,k2,k3,k4,l1,l2,l3,l4⟩,?_,fun M h1 h2=>?_⟩,hS.chg.none⟩
   ·rw [←(Option.some.inj hv:_=v)]
    rfl
   ·have hmm:∀ k o v,M' k o=some v→M k o=some v:=fun k o v h=>h2 k o v (hMim2 k o v h).1 (hS.imm _ _ _ (hMim2 k o v h).2)
    exact ⟨hin.1.mono hmm,hin.2.mono hmm,hmem' M h1 fun k o v hk h=>h2 k o v hk (hS.imm _ _ _ h)⟩
 ·refine ⟨_,he,Goes.same hN hS hch (r:=.tup [.agg rndZS,.int .i64 (.lit 1)]) rfl rfl ?_⟩
  clear hch he ha' hS hN
  refine X.go T19_ok 400 _ rfl Tryz.results19 ?_
  conv=>arg 2;cbv
  refine X.done T19_ok rfl (fun N w' v hN hS hv=>?_)
  rw [hQ]
  refine ⟨.inr ?_,hS.chg.none⟩
  rw [←(Option.some.inj hv:_=v)]
  rfl
def MsgP.toA (x:MsgP):MsgA:=⟨x.kind,x.sender,x.to,x.key,x.conf,x.b.count,x.b.node,x.b.life,x.ok,x.acc.count,x.acc.node,x.acc.life,x.reg,x.next.count,x.next.node,x.next.life,x.max⟩
theorem MsgP.row {x:MsgP} {M:Mem} {vs:List Value} (h:RepL M x.toD vs):∃ g:RegS,vs=x.toA.vals g.vals∧RepL M x.reg.toD g.vals:=by
 obtain ⟨rv,rfl,hr⟩:=MsgP.open h
 obtain ⟨g,rfl⟩:=RegS.of hr
 exact ⟨g,rfl,hr⟩
def MsgA.svsV (m:MsgA) (r:RegS):List SV:=[.int .u8 (.v m.kind),.int .u8 (.v m.fr),.int .u8 (.v m.to),.int .u8 (.v m.key),.int .u64 (.v m.C),.int .u64 (.v m.b1),.int .u8 (.v m.b2),.int .u32 (.v m.b3),.bool (.v m.ok),.int .u64 (.v m.a1),.int .u8 (.v m.a2),.int .u32 (.v m.a3)]++(r.svs++[.int .u64 (.v m.x1),.int .u8 (.v m.x2),.int .u32 (.v m.x3),.int .u64 (.v m.mx)])
def startV (C:Nat) (po:Option Addr) (no co:Nat) (pn:Option Addr) (nn cn:Nat) (key b1 b2 b3:Int) (kn:Bool) (va:List Value) (al:Bool):Value:=.agg (.int .u64 C::.slice po no co::.slice pn nn cn::.int .u8 key::.int .u64 b1::.int .u8 b2::.int .u32 b3::.bool kn::(va++[.bool al])).toArray
def startS (C:Nat) (po:Option Addr) (no co:Nat) (pn:Option Addr) (nn cn:Nat) (key b1 b2 b3:Int) (kn:SB) (g:RegS) (al:SB):List SV:=.int .u64 (.nat C)::.slv po no co::.slv pn nn cn::.int .u8 (.v key)::.int .u64 (.v b1)::.int .u8 (.v b2)::.int .u32 (.v b3)::.bool kn::(g.svs++[.bool al])
def greatR (no nn:Nat) (a:RegP) (l:List MsgP):Prop:=80<no∨80<nn∨a.great∨40<l.length∨∃ (i:Nat) (x:MsgP),l[i]?=some x∧x.reg.great
theorem rgreat_ok (C:Nat) (po:Option Addr) (no co:Nat) (pn:Option Addr) (nn cn:Nat) (key b1 b2 b3:Int) (kn:Bool) (a:RegP) (g:RegS) (al:Bool) (l:List MsgP) (p:Option Addr) (c:Nat) (w:World) (ha:RepL (wm w) a.toD g.vals) (hs:SlR (wm w) p c 24 (l.map MsgP.toD)) :
  Calls Tryz.prog 16 #[startV C po no co pn nn cn key b1 b2 b3 kn g.vals al,.slice p l.length c] w fun e w'=>e=.returned (.bool (B (greatR no nn a l)))∧Chg (fun _ _=>False) w w':=by
 obtain ⟨q,hq⟩:∃ q,q=B (greatR no nn a l):=⟨_,rfl⟩
 obtain ⟨n,hn⟩:∃ n,n=l.length:=⟨_,rfl⟩
 have hm:=maxLen_le
 have hl:n≤maxLen:=by rw [hn];have:=hs.len;simpa using this
 rw [←hq,←hn]
 have e0:=fun (w1:World) hi1=>great06_ok a g.vals w1 (ha.later (im:=elsewhere [] [] w) rfl hi1)
 obtain ⟨h0,hh0⟩:∃ h,h=B a.great:=⟨_,rfl⟩
 rw [←hh0] at e0
 obtain ⟨rk,ri,rs,rl,q1,q2,q3,q4,m1,m2,m3,m4,f1,f2,f3,f4⟩:=g
 refine X.begin (rg:=[]) (N:=[]) (ss:=[.agg (startS C po no co pn nn cn key b1 b2 b3 (.v kn) ⟨rk,ri,rs,rl,q1,q2,q3,q4,m1,m2,m3,m4,f1,f2,f3,f4⟩ (.v al)),.slv p n c]) Tryz.func16 rfl B16_ok rfl rfl Sat.std0 ?_
 obtain ⟨im,hime⟩:∃ im,im=elsewhere [] [] w:=⟨_,rfl⟩
 show X (mkE Tryz.prog Tryz.f16 _ w (InR [] []) (elsewhere [] [] w) (fun _ _=>False) (fun _=>True) [] B16) _ _
 rw [←hime] at e0 ⊢
 refine X.goX ([(21,.bool (.v h0))]) ([]) T16_ok 400 _ rfl Tryz.results16 (fun pr pe fin hpr hpe hfin=>?_)
 conv=>cbv
 refine ⟨hpr _ (.of Tryz.call8 [.agg _] (.bool h0) (fun _=>rfl) (fun _=>rfl) fun _ w1 hi1=>e0 w1 hi1),hfin _ _ ?_⟩
 clear hpr hpe hfin
 refine X.cond rfl (fun hc=>?_) (fun hc=>?_)
 ·refine X.go T16_ok 400 _ rfl Tryz.results16 ?_
  conv=>arg 2;cbv
  refine X.done T16_ok rfl (fun N w' v hN hS hv=>⟨fin_bool hv ?_,hS.chg.mono fun k o _ h=>inR_nil h⟩)
  simp only [SB.T,SB.F,SI.den] at hc
  rw [hh0,B_iff] at hc
  rw [hq]
  refine (B_pos ?_).symm
  unfold greatR
  rw [←hn]
  rcases hc with ((h | h) | h) | h
  ·exact .inl (by omega)
  ·exact .inr (.inl (by omega))
  ·exact .inr (.inr (.inl h))
  ·exact .inr (.inr (.inr (.inl (by omega))))
 simp only [SB.T,SB.F,SI.den] at hc
 rw [hh0] at hc
 refine X.go T16_ok 400 _ rfl Tryz.results16 ?_
 conv=>arg 2;cbv
 refine X.loop1 (fun i:{i:Nat // i≤n∧∀ (j:Nat) (x:MsgP),j<i→l[j]?=some x→¬x.reg.great}=>⟨[(1,.val (.slv p n c)),(2,.val (.own 0 0)),(5,.val (.int .i64 (.nat i.1)))],[⟨true,startS C po no co pn nn cn key b1 b2 b3 (.v kn) ⟨rk,ri,rs,rl,q1,q2,q3,q4,m1,m2,m3,m4,f1,f2,f3,f4⟩ (.v al),none⟩]⟩) (fun i=>n-i.1) (fun N a w' hN hf hS=>⟨⟨0,Nat.zero_le _,fun j x hj=>by omega⟩,?_⟩) (fun i q' hq'=>?_)
 ·exact At.again hf hS (by repeat first | exact trivial | refine ⟨⟨_,rfl,.inl ⟨rfl,rfl⟩⟩,?_⟩ | refine ⟨⟨_,rfl,.inr ⟨_,rfl,rfl⟩⟩,?_⟩ | refine ⟨⟨_,rfl,.inr ⟨_,rfl,by simp (disch:=omega) [SV.den,SI.den,wrapU,wrapD]<;>omega⟩⟩,?_⟩) (by repeat first | exact trivial | refine ⟨fun h=>h,SubC.refl rfl,rfl,?_⟩)
 obtain ⟨i,hi,hno⟩:=i
 refine X.go T16_ok 400 _ rfl Tryz.results16 ?_
 conv=>arg 2;cbv
 refine X.cond rfl (fun hlt=>?_) (fun hge=>?_)
 ·simp only [SB.T,SI.den] at hlt
  have hlt:i<n:=by omega
  obtain ⟨x1,hx1⟩:∃ x,l[i]?=some x:=⟨_,List.getElem?_eq_getElem (by omega)⟩
  obtain ⟨b1',y1,w1,hp1,hr1,hm1⟩:=hs.his hx1
  rw [←hime] at hm1
  obtain ⟨r,rfl,hreg⟩:=MsgP.row hr1
  obtain ⟨h,hh⟩:∃ h,h=B x1.reg.great:=⟨_,rfl⟩
  have hc1:=fun (w1:World) hi1=>great06_ok x1.reg _ w1 (hreg.later hime hi1)
  rw [←hh] at hc1
  obtain ⟨gk,gi,gs',gl,g1,g2',g3,g4,k1,k2,k3,k4,l1,l2,l3,l4⟩:=r
  obtain ⟨xx,hxx⟩:∃ y,y=x1.toA:=⟨_,rfl⟩
  rw [←hxx] at hm1
  obtain ⟨kd,fr,to,mk,mC,d1,d2,d3,ok,f1',f2',f3',mreg,z1,z2,z3,my⟩:=xx
  refine X.see b1' (y1+i*24) (MsgA.svsV ⟨kd,fr,to,mk,mC,d1,d2,d3,ok,f1',f2',f3',mreg,z1,z2,z3,my⟩ ⟨gk,gi,gs',gl,g1,g2',g3,g4,k1,k2,k3,k4,l1,l2,l3,l4⟩) (see_of hm1 rfl) (Nat.zero_lt_succ _) (fun N1 hN1 hNl1=>?_)
  have hg1:(N1++[(⟨b1',y1+i*24,0⟩:Num)])[1]?=some ⟨b1',y1+i*24,0⟩:=num_last hNl1
  refine X.goP ([(36,.own 1 0),(39,.bool (.v h))]) T16_ok 400 _ rfl Tryz.results16 (fun pr fin hpr hfin=>?_)
  conv=>cbv
  refine ⟨hpr _ (.of Tryz.call8 [.agg _] (.bool h) (fun _=>rfl) (fun _=>rfl) fun _ w1 hi1=>hc1 w1 hi1),hpr _ (ValOk.row rfl rfl (fun _=>rfl) Tryz.underlying53 Tryz.sizeOf56 hlt hp1 hg1 rfl rfl),hfin _ _ ?_⟩
  refine X.cond rfl (fun hbad=>?_) (fun hok=>?_)
  ·simp only [SB.T,SB.F,SI.den] at hbad
   refine X.go T16_ok 400 _ rfl Tryz.results16 ?_
   conv=>arg 2;cbv
   refine X.done T16_ok rfl (fun N w' v hN hS hv=>⟨fin_bool hv ?_,hS.chg.mono fun k o _ h=>inR_nil h⟩)
   rw [hq]
   rw [hh,B_iff] at hbad
   exact (B_pos (.inr (.inr (.inr (.inr ⟨i,x1,hx1,hbad⟩))))).symm
  ·simp only [SB.T,SB.F,SI.den] at hok
   refine X.go T16_ok 400 _ rfl Tryz.results16 ?_
   conv=>arg 2;cbv
   refine X.back (fun N a w' hN hf hS=>hq' ⟨i+1,by omega,fun j x' hj hj'=>?_⟩ a w' (by simp only;omega) ?_)
   ·by_cases e:j=i
    ·subst e
     rw [hx1] at hj'
     obtain rfl:=Option.some.inj hj'
     intro e
     rw [B_pos e] at hh
     rw [hh] at hok
     cases hok
    ·exact hno j x' (by omega) hj'
   exact At.again hf hS (by repeat first | exact trivial | refine ⟨⟨_,rfl,.inl ⟨rfl,rfl⟩⟩,?_⟩ | refine ⟨⟨_,rfl,.inr ⟨_,rfl,rfl⟩⟩,?_⟩ | refine ⟨⟨_,rfl,.inr ⟨_,rfl,by simp (disch:=omega) [SV.den,SI.den,wrapU,wrapD]<;>omega⟩⟩,?_⟩) (by repeat first | exact trivial | refine ⟨fun h=>h,SubC.refl rfl,rfl,?_⟩)
 simp only [SB.F,SI.den] at hge
 obtain rfl:i=n:=by omega
 refine X.go T16_ok 400 _ rfl Tryz.results16 ?_
 conv=>arg 2;cbv
 refine X.done T16_ok rfl (fun N w' v hN hS hv=>⟨fin_bool hv ?_,hS.chg.mono fun k o _ h=>inR_nil h⟩)
 rw [hq]
 refine (B_neg fun h=>?_).symm
 unfold greatR at h
 rw [←hn] at h
 rcases h with h | h | h | h | ⟨j,d,hj,hd⟩
 ·omega
 ·omega
 ·exact absurd hc (by simp [B_pos h])
 ·omega
 ·exact hno j d (by have:=(List.getElem?_eq_some_iff.1 hj).1;omega) hj hd
theorem same_gen (r r':RndG) (q q':RegP) (o n:Array Int) (w:World) (hC:r.C=r'.C) (h1:InB r.p1 r.n1 o w) (h2:InB r.p2 r.n2 n w) (h3:InB r'.p1 r'.n1 o w) (h4:InB r'.p2 r'.n2 n w) (hq:RepL (wm w) q.toD r.reg.vals) (hq':RepL (wm w) q'.toD r'.reg.vals) :
  Calls Tryz.prog 18 #[.agg r.vals.toArray,.agg r'.vals.toArray] w fun e w'=>e=.returned (.bool (B (sameG r r' true (B (q=q')))))∧Chg (fun _ _=>False) w w':=by
 refine rsame_ok r r' true (B (q=q')) w (fun w1 him=>?_) (fun w1 him=>?_)
 ·rw [←hC]
  exact same10_ok r.C r.p1 r.p2 r'.p1 r'.p2 r.n1 r.n2 r'.n1 r'.n2 r.c1 r.c2 r'.c1 r'.c2 o.toList n.toList w1 (by simpa using h1.im him) (by simpa using h2.im him) (by simpa using h3.im him) (by simpa using h4.im him)
 ·exact regSameR_ok q q' _ _ w1 (hq.later (im:=elsewhere [] [] w) rfl him) (hq'.later (im:=elsewhere [] [] w) rfl him)
def rndZ:RndG:=⟨0,0,none,0,0,none,0,0,0,0,0,false,0,0,0,0,0,gZ,0,0,0,0⟩
theorem gZ_rep (M:Mem):RepL M regZP.toD gZ.vals:=regZ_rep M
theorem inB_nil (w:World):InB none 0 #[] w:=⟨rfl,fun h=>absurd h (Nat.lt_irrefl 0)⟩
theorem regZ_small:¬regZP.great:=by
 simp [RegP.great,regZP]
def BgR (al:Bool) (C:Nat) (o n:Array Int) (key b1 b2 b3:Int) (Mo:Mem) (w:World):Ending→World→Prop:=fun e w' =>
 ((begP C o n key b1 b2 b3∧∃ p1 n1 c1 p2 n2 c2 ph g q b,e=.returned (.tuple #[.agg (RndG.vals ⟨key,C,p1,n1,c1,p2,n2,c2,b1,b2,b3,al,ph,0,0,0,0,g,0,0,0,0⟩).toArray,.int .i64 0,.bool b])∧¬RegP.great q∧∀ M:Mem,(∀ k o v,Mo k o=some v→M k o=some v)→(∀ k o v,w.heap.size≤k→w'.cell? ⟨k,o,none⟩=some v→M k o=some v)→InM p1 n1 o.toList M∧InM p2 n2 n.toList M∧RepL M q.toD g.vals) ∨
  ∃ b,e=.returned (.tuple #[rndZV,.int .i64 1,.bool b]))∧Chg (fun _ _=>False) w w'
theorem rbeg_ok (C:Nat) (po:Option Addr) (no co:Nat) (pn:Option Addr) (nn cn:Nat) (o n:Array Int) (key b1 b2 b3:Int) (kn:Bool) (a:RegP) (g:RegS) (al:Bool) (Mo:Mem) (w:World) (hMo:∀ k o v,Mo k o=some v→w.cell? ⟨k,o,none⟩=some v) (ha:RepL Mo a.toD g.vals) (hgr:¬a.great) (hno:no≤100) (hnn:nn≤100) (ho:InB po no o w) (hn:InB pn nn n w) (hbo:∀ x∈o.toList,0≤x∧x<256) (hbn:∀ x∈n.toList,0≤x∧x<256) :
  Calls Tryz.prog 17 #[startV C po no co pn nn cn key b1 b2 b3 kn g.vals al] w (BgR al C o n key b1 b2 b3 Mo w):=by
 obtain ⟨Q,hQ⟩:∃ Q:Ending→World→Prop,Q=BgR al C o n key b1 b2 b3 Mo w:=⟨_,rfl⟩
 rw [←hQ]
 have hMo':∀ k o v,Mo k o=some v→elsewhere [] [] w k o=some v:=fun k o v h=>his (hMo k o v h)
 obtain ⟨rk,ri,rs,rl,q1,q2,q3,q4,m1,m2,m3,m4,e1,e2,e3,e4⟩:=g
 obtain ⟨zb,hzb⟩:∃ b,b=B (sameG rndZ rndZ true (B (regZP=regZP))):=⟨_,rfl⟩
 have hzz:∀ w1:World,Calls Tryz.prog 18 #[rndZV,rndZV] w1 fun e w'=>e=.returned (.bool zb)∧Chg (fun _ _=>False) w1 w':=fun w1=>by
  rw [hzb]
  exact same_gen rndZ rndZ regZP regZP #[] #[] w1 rfl (inB_nil w1) (inB_nil w1) (inB_nil w1) (inB_nil w1) (gZ_rep _) (gZ_rep _)
 cases kn
 ·refine X.begin (rg:=[]) (N:=[]) (ss:=[.agg (startS C po no co pn nn cn key b1 b2 b3 (.lit false) ⟨rk,ri,rs,rl,q1,q2,q3,q4,m1,m2,m3,m4,e1,e2,e3,e4⟩ (.lit al))]) Tryz.func17 rfl B17_ok rfl rfl Sat.std0 ?_
  refine X.go T17_ok 400 _ rfl Tryz.results17 ?_
  conv=>arg 2;cbv
  refine X.call rfl rfl rfl rfl Tryz.call11 (fun N w1 args hN hS ha'=>?_)
  have ha':args=[.agg #[.int .u64 C,.slice po no co,.slice pn nn cn],.int .u8 key,.agg #[.int .u64 b1,.int .u8 b2,.int .u32 b3],.bool al]:=(Option.some.inj ha').symm
  rw [ha']
  refine (begin_ok al key C po pn no nn co cn o n b1 b2 b3 w1 hno hnn (ho.stays hS.chg.none) (hn.stays hS.chg.none) hbo hbn).mono fun e w2 hR=>?_
  obtain ⟨⟨hgood,p1,n1,c1,p2,n2,c2,he,hmem⟩ | ⟨hbad,he⟩,hch⟩:=hR
  ·refine ⟨_,he,Goes.newMem hN hS hch (r:=.tup [.agg (rndO al key C (.slv p1 n1 c1) (.slv p2 n2 c2) b1 b2 b3 1),.int .i64 (.lit 0)]) rfl rfl (fun hold hnew=>?_)⟩
   have hmem':∀ M:Mem,(∀ k o v,Mo k o=some v→M k o=some v)→(∀ k o v,w.heap.size≤k→imNew (elsewhere [] [] w) w1 w2 k o=some v→M k o=some v)→InM p1 n1 o.toList M∧InM p2 n2 n.toList M∧RepL M regZP.toD gZ.vals:=fun M _ h2=>by
    have h:=hmem M fun k o v hk h=>h2 k o v (Nat.le_trans hS.chg.size hk) (hnew _ _ _ hk h)
    exact ⟨h.1,h.2,gZ_rep M⟩
   obtain ⟨im,him⟩:∃ im,im=imNew (elsewhere [] [] w) w1 w2:=⟨_,rfl⟩
   have hold':∀ k o v,elsewhere [] [] w k o=some v→im k o=some v:=by rw [him];exact hold
   show X (mkE Tryz.prog Tryz.f17 Q w (InR [] []) (imNew (elsewhere [] [] w) w1 w2) (fun _ _=>False) (fun _=>True) [] B17) _ _
   rw [←him] at hmem' ⊢
   clear him hold hnew hch he ha' hS hN hmem
   obtain ⟨i1,i2,i3⟩:=hmem' im (fun k o v h=>hold' _ _ _ (hMo' _ _ _ h)) (fun k o v _ h=>h)
   refine X.go T17_ok 400 _ rfl Tryz.results17 ?_
   conv=>arg 2;cbv
   refine X.call rfl rfl rfl rfl Tryz.call46 (fun N w1 args hN hS ha'=>?_)
   have ha':args=[.agg #[.int .u64 C,.slice po no co,.slice pn nn cn],.int .u8 key,.agg #[.int .u64 b1,.int .u8 b2,.int .u32 b3],.bool al]:=(Option.some.inj ha').symm
   rw [ha']
   refine (rbegin_ok al key C po pn no nn co cn o n b1 b2 b3 w1 hno hnn (ho.im (fun k o v h=>hS.imm _ _ _ (hold' _ _ _ h))) (hn.im (fun k o v h=>hS.imm _ _ _ (hold' _ _ _ h))) hbo hbn).mono fun e w2 hR=>?_
   obtain ⟨⟨hgood',he⟩ | ⟨hbad,he⟩,hch⟩:=hR
   ·refine ⟨_,he,Goes.same hN hS hch (r:=.tup [.agg (rndO al key C (.slv po no co) (.slv pn nn cn) b1 b2 b3 1),.int .i64 (.lit 0)]) rfl rfl ?_⟩
    clear hch he ha' hS hN
    obtain ⟨sb,hsb⟩:∃ b,b=B (sameG ⟨key,C,p1,n1,c1,p2,n2,c2,b1,b2,b3,al,1,0,0,0,0,gZ,0,0,0,0⟩ ⟨key,C,po,no,co,pn,nn,cn,b1,b2,b3,al,1,0,0,0,0,gZ,0,0,0,0⟩ true (B (regZP=regZP))):=⟨_,rfl⟩
    refine X.goX ([(85,.bool (.v sb))]) ([]) T17_ok 400 _ rfl Tryz.results17 (fun pr pe fin hpr hpe hfin=>?_)
    conv=>cbv
    refine ⟨hpr _ (.of Tryz.call18 [.agg _,.agg _] (.bool _) (fun _=>rfl) (fun _=>rfl) fun _ w1 hi=>?_),rfl,hfin _ _ ?_⟩
    ·rw [hsb]
     exact same_gen ⟨key,C,p1,n1,c1,p2,n2,c2,b1,b2,b3,al,1,0,0,0,0,gZ,0,0,0,0⟩ ⟨key,C,po,no,co,pn,nn,cn,b1,b2,b3,al,1,0,0,0,0,gZ,0,0,0,0⟩ regZP regZP o n w1 rfl (by simpa using i1.inB hi) (by simpa using i2.inB hi) (ho.im fun k o v h=>hi _ _ _ (hold' _ _ _ h)) (hn.im fun k o v h=>hi _ _ _ (hold' _ _ _ h)) (i3.mono hi) (gZ_rep _)
    refine X.done T17_ok rfl (fun N w' v hN hS hv=>?_)
    rw [hQ]
    refine ⟨.inl ⟨hgood,p1,n1,c1,p2,n2,c2,1,gZ,regZP,sb,?_,regZ_small,fun M h1 h2=>hmem' M h1 fun k o v hk h=>h2 k o v hk (hS.imm _ _ _ h)⟩,hS.chg.none⟩
    rw [←(Option.some.inj hv:_=v)]
    rfl
   ·exact absurd hgood hbad
  ·refine ⟨_,he,Goes.same hN hS hch (r:=.tup [.agg rndZS,.int .i64 (.lit 1)]) rfl rfl ?_⟩
   clear hch he ha' hS hN
   refine X.go T17_ok 400 _ rfl Tryz.results17 ?_
   conv=>arg 2;cbv
   refine X.call rfl rfl rfl rfl Tryz.call46 (fun N w1 args hN hS ha'=>?_)
   have ha':args=[.agg #[.int .u64 C,.slice po no co,.slice pn nn cn],.int .u8 key,.agg #[.int .u64 b1,.int .u8 b2,.int .u32 b3],.bool al]:=(Option.some.inj ha').symm
   rw [ha']
   refine (rbegin_ok al key C po pn no nn co cn o n b1 b2 b3 w1 hno hnn (ho.stays hS.chg.none) (hn.stays hS.chg.none) hbo hbn).mono fun e w2 hR=>?_
   obtain ⟨⟨hgood',he⟩ | ⟨hbad',he⟩,hch⟩:=hR
   ·exact absurd hgood' hbad
   ·refine ⟨_,he,Goes.same hN hS hch (r:=.tup [.agg rndZS,.int .i64 (.lit 1)]) rfl rfl ?_⟩
    clear hch he ha' hS hN
    refine X.goX ([(85,.bool (.v zb))]) ([]) T17_ok 400 _ rfl Tryz.results17 (fun pr pe fin hpr hpe hfin=>?_)
    conv=>cbv
    refine ⟨hpr _ (.of Tryz.call18 [rndZV,rndZV] (.bool _) (fun _=>rfl) (fun _=>rfl) fun _ w1 hi=>hzz w1),rfl,hfin _ _ ?_⟩
    refine X.done T17_ok rfl (fun N w' v hN hS hv=>?_)
    rw [hQ]
    refine ⟨.inr ⟨zb,?_⟩,hS.chg.none⟩
    rw [←(Option.some.inj hv:_=v)]
    rfl
 ·refine X.begin (rg:=[]) (N:=[]) (ss:=[.agg (startS C po no co pn nn cn key b1 b2 b3 (.lit true) ⟨rk,ri,rs,rl,q1,q2,q3,q4,m1,m2,m3,m4,e1,e2,e3,e4⟩ (.lit al))]) Tryz.func17 rfl B17_ok rfl rfl Sat.std0 ?_
  refine X.go T17_ok 400 _ rfl Tryz.results17 ?_
  conv=>arg 2;cbv
  refine X.call rfl rfl rfl rfl Tryz.call19 (fun N w1 args hN hS ha'=>?_)
  have ha':args=[.agg #[.int .u64 C,.slice po no co,.slice pn nn cn],.int .u8 key,.agg #[.int .u64 b1,.int .u8 b2,.int .u32 b3],.agg (RegS.vals ⟨rk,ri,rs,rl,q1,q2,q3,q4,m1,m2,m3,m4,e1,e2,e3,e4⟩).toArray,.bool al]:=(Option.some.inj ha').symm
  rw [ha']
  refine (knownG_ok al key C po pn no nn co cn o n b1 b2 b3 a _ Mo w1 (fun k o v h=>hS.imm _ _ _ (hMo' _ _ _ h)) ha hgr hno hnn (ho.stays hS.chg.none) (hn.stays hS.chg.none) hbo hbn).mono fun e w2 hR=>?_
  obtain ⟨⟨hgood,p1,n1,c1,p2,n2,c2,⟨gk,gi,gs',gl,g1,g2',g3,g4,k1,k2,k3,k4,l1,l2,l3,l4⟩,he,hmem⟩ | he,hch⟩:=hR
  ·refine ⟨_,he,Goes.newMem hN hS hch (r:=.tup [.agg (RndG.svsA ⟨key,C,p1,n1,c1,p2,n2,c2,b1,b2,b3,al,2,0,0,0,0,⟨gk,gi,gs',gl,g1,g2',g3,g4,k1,k2,k3,k4,l1,l2,l3,l4⟩,0,0,0,0⟩ (.lit al) (.lit 2)),.int .i64 (.lit 0)]) rfl rfl (fun hold hnew=>?_)⟩
   have hmem':∀ M:Mem,(∀ k o v,Mo k o=some v→M k o=some v)→(∀ k o v,w.heap.size≤k→imNew (elsewhere [] [] w) w1 w2 k o=some v→M k o=some v)→InM p1 n1 o.toList M∧InM p2 n2 n.toList M∧RepL M a.toD (RegS.vals ⟨gk,gi,gs',gl,g1,g2',g3,g4,k1,k2,k3,k4,l1,l2,l3,l4⟩):=fun M h1 h2 =>
    hmem M h1 fun k o v hk h=>h2 k o v (Nat.le_trans hS.chg.size hk) (hnew _ _ _ hk h)
   obtain ⟨im,him⟩:∃ im,im=imNew (elsewhere [] [] w) w1 w2:=⟨_,rfl⟩
   have hold':∀ k o v,elsewhere [] [] w k o=some v→im k o=some v:=by rw [him];exact hold
   show X (mkE Tryz.prog Tryz.f17 Q w (InR [] []) (imNew (elsewhere [] [] w) w1 w2) (fun _ _=>False) (fun _=>True) [] B17) _ _
   rw [←him] at hmem' ⊢
   clear him hold hnew hch he ha' hS hN hmem
   obtain ⟨i1,i2,i3⟩:=hmem' im (fun k o v h=>hold' _ _ _ (hMo' _ _ _ h)) (fun k o v _ h=>h)
   refine X.go T17_ok 400 _ rfl Tryz.results17 ?_
   conv=>arg 2;cbv
   refine X.call rfl rfl rfl rfl Tryz.call45 (fun N w1 args hN hS ha'=>?_)
   have ha':args=[.agg #[.int .u64 C,.slice po no co,.slice pn nn cn],.int .u8 key,.agg #[.int .u64 b1,.int .u8 b2,.int .u32 b3],.agg (RegS.vals ⟨rk,ri,rs,rl,q1,q2,q3,q4,m1,m2,m3,m4,e1,e2,e3,e4⟩).toArray,.bool al]:=(Option.some.inj ha').symm
   rw [ha']
   have hx:∀ k o v,Mo k o=some v→w1.cell? ⟨k,o,none⟩=some v:=fun k o v h=>hS.imm _ _ _ (hold' _ _ _ (hMo' _ _ _ h))
   refine (rknown_ok al key C po pn no nn co cn o n b1 b2 b3 _ (B a.may) w1 hno hnn (ho.im (fun k o v h=>hS.imm _ _ _ (hold' _ _ _ h))) (hn.im (fun k o v h=>hS.imm _ _ _ (hold' _ _ _ h))) hbo hbn (fun w3 h3=>may06_ok a _ w3 (RepL.mono (M':=wm w3) (fun k o v h=>h3 k o v (his (hx k o v h))) _ ha))).mono fun e w2 hR=>?_
   obtain ⟨⟨hgood',he⟩ | ⟨hbad,he⟩,hch⟩:=hR
   ·refine ⟨_,he,Goes.same hN hS hch (r:=.tup [.agg (RndG.svsA ⟨key,C,po,no,co,pn,nn,cn,b1,b2,b3,al,2,0,0,0,0,⟨rk,ri,rs,rl,q1,q2,q3,q4,m1,m2,m3,m4,e1,e2,e3,e4⟩,0,0,0,0⟩ (.lit al) (.lit 2)),.int .i64 (.lit 0)]) rfl rfl ?_⟩
    clear hch he ha' hS hN
    obtain ⟨sb,hsb⟩:∃ b,b=B (sameG ⟨key,C,p1,n1,c1,p2,n2,c2,b1,b2,b3,al,2,0,0,0,0,⟨gk,gi,gs',gl,g1,g2',g3,g4,k1,k2,k3,k4,l1,l2,l3,l4⟩,0,0,0,0⟩ ⟨key,C,po,no,co,pn,nn,cn,b1,b2,b3,al,2,0,0,0,0,⟨rk,ri,rs,rl,q1,q2,q3,q4,m1,m2,m3,m4,e1,e2,e3,e4⟩,0,0,0,0⟩ true (B (a=a))):=⟨_,rfl⟩
    refine X.goX ([(51,.bool (.v sb))]) ([]) T17_ok 400 _ rfl Tryz.results17 (fun pr pe fin hpr hpe hfin=>?_)
    conv=>cbv
    refine ⟨hpr _ (.of Tryz.call18 [.agg _,.agg _] (.bool _) (fun _=>rfl) (fun _=>rfl) fun _ w1 hi=>?_),rfl,hfin _ _ ?_⟩
    ·rw [hsb]
     exact same_gen ⟨key,C,p1,n1,c1,p2,n2,c2,b1,b2,b3,al,2,0,0,0,0,⟨gk,gi,gs',gl,g1,g2',g3,g4,k1,k2,k3,k4,l1,l2,l3,l4⟩,0,0,0,0⟩ ⟨key,C,po,no,co,pn,nn,cn,b1,b2,b3,al,2,0,0,0,0,⟨rk,ri,rs,rl,q1,q2,q3,q4,m1,m2,m3,m4,e1,e2,e3,e4⟩,0,0,0,0⟩ a a o n w1 rfl (by simpa using i1.inB hi) (by simpa using i2.inB hi) (ho.im fun k o v h=>hi _ _ _ (hold' _ _ _ h)) (hn.im fun k o v h=>hi _ _ _ (hold' _ _ _ h)) (i3.mono hi) (ha.mono fun k o v h=>hi _ _ _ (hold' _ _ _ (hMo' _ _ _ h)))
    refine X.done T17_ok rfl (fun N w' v hN hS hv=>?_)
    rw [hQ]
    refine ⟨.inl ⟨hgood,p1,n1,c1,p2,n2,c2,2,⟨gk,gi,gs',gl,g1,g2',g3,g4,k1,k2,k3,k4,l1,l2,l3,l4⟩,a,sb,?_,hgr,fun M h1 h2=>hmem' M h1 fun k o v hk h=>h2 k o v hk (hS.imm _ _ _ h)⟩,hS.chg.none⟩
    rw [←(Option.some.inj hv:_=v)]
    rfl
   ·refine ⟨_,he,Goes.same hN hS hch (r:=.tup [.agg rndZS,.int .i64 (.lit 1)]) rfl rfl ?_⟩
    clear hch he ha' hS hN
    refine X.go T17_ok 400 _ rfl Tryz.results17 ?_
    conv=>arg 2;cbv
    refine X.done T17_ok rfl (fun N w' v hN hS hv=>?_)
    rw [hQ]
    refine ⟨.inl ⟨hgood,p1,n1,c1,p2,n2,c2,2,⟨gk,gi,gs',gl,g1,g2',g3,g4,k1,k2,k3,k4,l1,l2,l3,l4⟩,a,false,?_,hgr,fun M h1 h2=>hmem' M h1 fun k o v hk h=>h2 k o v hk (hS.imm _ _ _ h)⟩,hS.chg.none⟩
    rw [←(Option.some.inj hv:_=v)]
    rfl
  ·refine ⟨_,he,Goes.same hN hS hch (r:=.tup [.agg rndZS,.int .i64 (.lit 1)]) rfl rfl ?_⟩
   clear hch he ha' hS hN
   refine X.go T17_ok 400 _ rfl Tryz.results17 ?_
   conv=>arg 2;cbv
   refine X.call rfl rfl rfl rfl Tryz.call45 (fun N w1 args hN hS ha'=>?_)
   have ha':args=[.agg #[.int .u64 C,.slice po no co,.slice pn nn cn],.int .u8 key,.agg #[.int .u64 b1,.int .u8 b2,.int .u32 b3],.agg (RegS.vals ⟨rk,ri,rs,rl,q1,q2,q3,q4,m1,m2,m3,m4,e1,e2,e3,e4⟩).toArray,.bool al]:=(Option.some.inj ha').symm
   rw [ha']
   have hx:∀ k o v,Mo k o=some v→w1.cell? ⟨k,o,none⟩=some v:=fun k o v h=>hS.imm _ _ _ (hMo' _ _ _ h)
   refine (rknown_ok al key C po pn no nn co cn o n b1 b2 b3 _ (B a.may) w1 hno hnn (ho.stays hS.chg.none) (hn.stays hS.chg.none) hbo hbn (fun w3 h3=>may06_ok a _ w3 (RepL.mono (M':=wm w3) (fun k o v h=>h3 k o v (his (hx k o v h))) _ ha))).mono fun e w2 hR=>?_
   obtain ⟨⟨hgood',he⟩ | ⟨hbad',he⟩,hch⟩:=hR
   ·refine ⟨_,he,Goes.same hN hS hch (r:=.tup [.agg (RndG.svsA ⟨key,C,po,no,co,pn,nn,cn,b1,b2,b3,al,2,0,0,0,0,⟨rk,ri,rs,rl,q1,q2,q3,q4,m1,m2,m3,m4,e1,e2,e3,e4⟩,0,0,0,0⟩ (.lit al) (.lit 2)),.int .i64 (.lit 0)]) rfl rfl ?_⟩
    clear hch he ha' hS hN
    refine X.go T17_ok 400 _ rfl Tryz.results17 ?_
    conv=>arg 2;cbv
    refine X.done T17_ok rfl (fun N w' v hN hS hv=>?_)
    rw [hQ]
    refine ⟨.inr ⟨false,?_⟩,hS.chg.none⟩
    rw [←(Option.some.inj hv:_=v)]
    rfl
   ·refine ⟨_,he,Goes.same hN hS hch (r:=.tup [.agg rndZS,.int .i64 (.lit 1)]) rfl rfl ?_⟩
    clear hch he ha' hS hN
    refine X.goX ([(51,.bool (.v zb))]) ([]) T17_ok 400 _ rfl Tryz.results17 (fun pr pe fin hpr hpe hfin=>?_)
    conv=>cbv
    refine ⟨hpr _ (.of Tryz.call18 [rndZV,rndZV] (.bool _) (fun _=>rfl) (fun _=>rfl) fun _ w1 hi=>hzz w1),rfl,hfin _ _ ?_⟩
    refine X.done T17_ok rfl (fun N w' v hN hS hv=>?_)
    rw [hQ]
    refine ⟨.inr ⟨zb,?_⟩,hS.chg.none⟩
    rw [←(Option.some.inj hv:_=v)]
    rfl
def msg2S:List SV:=[.int .u8 (.lit 2),.int .u8 (.lit 3),.int .u8 (.lit 2),.int .u8 (.lit 1),.int .u64 (.lit 0),.int .u64 (.lit 1),.int .u8 (.lit 2),.int .u32 (.lit 0),.bool (.lit true),.int .u64 (.lit 0),.int .u8 (.lit 0),.int .u32 (.lit 0),
 .int .u8 (.lit 0),.int .u64 (.lit 0),.int .i64 (.lit 0),.raw (.slice none 0 0),.raw (.slice none 0 0),.raw (.slice none 0 0),.int .u64 (.lit 0),.raw (.slice none 0 0),.int .u64 (.lit 0),.int .u8 (.lit 0),.int .u32 (.lit 0),.int .u64 (.lit 0)]
def rnd2S (p1:Option Addr) (n1 c1:Nat) (p2:Option Addr) (n2 c2:Nat) (ph got:Int):List SV:=[.int .u8 (.lit 1),.int .u64 (.lit 0),.slv p1 n1 c1,.slv p2 n2 c2,.int .u64 (.lit 1),.int .u8 (.lit 2),.int .u32 (.lit 0),.bool (.lit false),.int .u8 (.lit ph),.int .u64 (.lit got),
 .int .u64 (.lit 0),.int .u8 (.lit 0),.int .u32 (.lit 0),.int .u8 (.lit 0),.int .u64 (.lit 0),.int .i64 (.lit 0),.raw (.slice none 0 0),.raw (.slice none 0 0),.raw (.slice none 0 0),.int .u64 (.lit 0),.raw (.slice none 0 0),.int .u64 (.lit 0),.int .u8 (.lit 0),.int .u32 (.lit 0),.int .u64 (.lit 0)]
set_option maxRecDepth 1000000 in
theorem may2_ok (w:World):Calls Tryz.prog 43 #[msgV 2 3 2 1 0 1 2 0 true] w fun e w'=>e=.returned (.bool true)∧Chg (fun _ _=>False) w w' :=
 told_run FALL_ok F43_ok 400 [.agg msg2S] rfl rfl (l:=[.bool (.lit true)]) (fun _=>rfl) (by kernel_rfl) w
set_option maxRecDepth 1000000 in
theorem compareZ_ok (w:World):Calls Tryz.prog 41 #[balZV,balZV] w fun e w'=>e=.returned (.int .i64 0)∧Chg (fun _ _=>False) w w' :=
 told_run FALL_ok F41_ok 400 [.agg balZ,.agg balZ] rfl rfl (l:=[.int .i64 (.lit 0)]) (fun _=>rfl) (by kernel_rfl) w
theorem belongs2_ok (p1:Option Addr) (n1 c1:Nat) (p2:Option Addr) (n2 c2:Nat) (w:World) (ho:InB p1 n1 #[] w) (hn:InB p2 n2 #[3] w) :
  Calls Tryz.prog 38 #[rndAV false 1 0 p1 n1 c1 p2 n2 c2 1 2 0 1 0,msgV 2 3 2 1 0 1 2 0 true] w fun e w'=>e=.returned (.bool true)∧Chg (fun _ _=>False) w w':=by
 have hb0:∀ x∈(#[]:Array Int).toList,0≤x∧x<256:=fun x hx=>by simp at hx
 have hb3:∀ x∈(#[3]:Array Int).toList,0≤x∧x<256:=fun x hx=>by
  obtain rfl:x=3:=by simpa using hx
  decide
 have hs1:n1=0:=ho.1.symm
 have hs2:n2=1:=hn.1.symm
 refine X.begin (rg:=[]) (N:=[]) (ss:=[.agg (rnd2S p1 n1 c1 p2 n2 c2 1 0),.agg msg2S]) Tryz.func38 rfl B38_ok rfl rfl Sat.std0 ?_
 refine X.goX ([(27,.bool (.lit true)),(59,.bool (.lit true))]) ([(56,⟨fun rg=>.osl rg.length 0 1 1 none,[],[⟨false,[.int .u8 (.v 3)],none⟩]⟩)]) T38_ok 400 _ rfl Tryz.results38 (fun pr pe fin hpr hpe hfin=>?_)
 conv=>cbv
 refine ⟨hpr _ (.of Tryz.call43 [msgV 2 3 2 1 0 1 2 0 true] (.bool true) (fun _=>rfl) (fun _=>rfl) fun _ w1 him=>may2_ok w1),hpe _ _ _ _ _ ?_,hpr _ ?_,hfin _ _ ?_⟩
 ·refine EffOk.call (l:=[.agg [.int .u64 (.lit 0),.slv p1 n1 c1,.slv p2 n2 c2],.int .u8 (.lit 1)]) rfl Tryz.call67 fun N w1 args hN hS ha=>?_
  have ha:args=[.agg #[.int .u64 (0:Nat),.slice p1 n1 c1,.slice p2 n2 c2],.int .u8 1]:=(Option.some.inj ha).symm
  rw [ha]
  refine (ckeepers_ok 0 p1 p2 n1 n2 c1 c2 #[] #[3] 1 w1 (by omega) (by omega) (ho.im hS.imm) (hn.im hS.imm) hb0 hb3).mono fun e w' hr=>?_
  rw [keepC_one] at hr
  obtain ⟨N',v,h1,h2,h3,h4⟩:=(hr.ro (by simp)).sat Nat.one_pos hS
  exact ⟨v,h1,N',h2,h3,h4⟩
 ·refine fun _=>⟨Tryz.call66,fun N w1 args hN hS ha=>?_⟩
  obtain ⟨q,hq⟩:∃ p,N[2]?=some p:=⟨_,List.getElem?_eq_getElem (by rw [hS.len];show 2<3;omega)⟩
  have ha:args=[.slice (some ⟨q.b,q.o,none⟩) 1 q.x,.int .u8 3]:=by
   simp only [SV.denL,SV.den,SI.den,hq,Num.cap,Nat.add_zero,Nat.sub_zero,Nat.div_one,Option.some.injEq] at ha
   exact ha.symm
  rw [ha]
  refine (contains8_ok (some ⟨q.b,q.o,none⟩) 1 q.x #[3] 3 w1 (by omega) ⟨rfl,fun h0=>⟨q.b,q.o,rfl,fun j hj=>?_⟩⟩).mono fun e w' ⟨he,hch⟩=>⟨_,he,rfl,hch⟩
  have hj:j<1:=hj
  obtain rfl:j=0:=by omega
  obtain ⟨v,h1,h2⟩:=hS.cell 2 _ _ rfl hq 0 (.int .u8 (.v 3)) rfl
  simp only [SV.den,SI.den,Option.some.injEq] at h1
  rw [h2,←h1]
  rfl
 ·refine X.done T38_ok rfl (fun N w' v hN hS hv=>⟨fin_bool hv ?_,hS.chg.mono fun k o _ h=>inR_nil h⟩)
  rfl
theorem told2_ok (p1:Option Addr) (n1 c1:Nat) (p2:Option Addr) (n2 c2:Nat) (w:World) (ho:InB p1 n1 #[] w) (hn:InB p2 n2 #[3] w) :
  Calls Tryz.prog 14 #[rndAV false 1 0 p1 n1 c1 p2 n2 c2 1 2 0 1 0,msgV 2 3 2 1 0 1 2 0 true] w fun e w'=>e=.returned (rndAV false 1 0 p1 n1 c1 p2 n2 c2 1 2 0 2 8)∧Chg (fun _ _=>False) w w':=by
 have hb0:∀ x∈(#[]:Array Int).toList,0≤x∧x<256:=fun x hx=>by simp at hx
 have hb3:∀ x∈(#[3]:Array Int).toList,0≤x∧x<256:=fun x hx=>by
  obtain rfl:x=3:=by simpa using hx
  decide
 have hs1:n1=0:=ho.1.symm
 have hs2:n2=1:=hn.1.symm
 refine X.begin (rg:=[]) (N:=[]) (ss:=[.agg (rnd2S p1 n1 c1 p2 n2 c2 1 0),.agg msg2S]) Tryz.func14 rfl B14_ok rfl rfl Sat.std0 ?_
 refine X.goX ([(7,.bool (.lit true)),(23,.int .u64 (.lit 8)),(59,.int .i64 (.lit 0)),(74,.bool (.lit true))]) ([]) T14_ok 400 _ rfl Tryz.results14 (fun pr pe fin hpr hpe hfin=>?_)
 conv=>cbv
 refine ⟨hpr _ (.of Tryz.call38 [rndAV false 1 0 p1 n1 c1 p2 n2 c2 1 2 0 1 0,msgV 2 3 2 1 0 1 2 0 true] (.bool true) (fun _=>rfl) (fun _=>rfl) fun _ w1 him=>belongs2_ok p1 n1 c1 p2 n2 c2 w1 (ho.im him) (hn.im him)),hpr _ ?_,hpr _ ?_,hpr _ ?_,hfin _ _ ?_⟩
 ·refine vk_bin rfl rfl rfl fun _ N v hv=>?_
  rw [←hv]
  rfl
 ·exact .of Tryz.call41 [balZV,balZV] (.int .i64 0) (fun _=>rfl) (fun _=>rfl) fun _ w1 him=>compareZ_ok w1
 ·refine .of Tryz.call40 [.agg #[.int .u64 (0:Nat),.slice p1 n1 c1,.slice p2 n2 c2],.int .u8 1,.int .u64 (8:Nat)] (.bool true) (fun _=>rfl) (fun _=>rfl) fun _ w1 him=>?_
  have h:=quorum_ok 0 8 p1 p2 n1 n2 c1 c2 #[] #[3] 1 w1 (by omega) (by omega) (by decide) (ho.im him) (hn.im him) hb0 hb3
  rw [B_pos quoC_8] at h
  exact h
 refine X.done T14_ok rfl (fun N w' v hN hS hv=>⟨?_,hS.chg.none⟩)
 rw [←(Option.some.inj hv:_=v)]
 rfl
theorem awake17_ok (w:World):Calls Tryz.prog 10 #[] w fun e w'=>e=.returned (.bool true)∧Chg (fun _ _=>False) w w':=by
 have hb0:∀ x∈(#[]:Array Int).toList,0≤x∧x<256:=fun x hx=>by simp at hx
 have hb3:∀ x∈(#[3]:Array Int).toList,0≤x∧x<256:=fun x hx=>by
  obtain rfl:x=3:=by simpa using hx
  decide
 have hin:∀ w1:World,InB none 0 #[] w1:=fun w1=>⟨rfl,fun h=>absurd h (Nat.lt_irrefl 0)⟩
 obtain ⟨Q,hQ⟩:∃ Q:Ending→World→Prop,Q=fun e w'=>e=.returned (.bool true)∧Chg (fun _ _=>False) w w':=⟨_,rfl⟩
 rw [←hQ]
 refine X.begin (rg:=[]) (N:=[]) (ss:=[]) Tryz.func10 rfl B10_ok rfl rfl Sat.std0 ?_
 refine X.go T10_ok 400 _ rfl Tryz.results10 ?_
 conv=>arg 2;cbv
 refine X.call rfl rfl rfl rfl Tryz.call11 (fun N w1 args hN hS ha=>?_)
 obtain ⟨p,hp⟩:=num_of hS (r:=0) rfl
 have h3:InB (some ⟨p.b,p.o+0,none⟩) 1 #[3] w1:=inB_own hS (r:=0) rfl hp rfl fun j hj=>by
  obtain rfl:j=0:=by omega
  exact ⟨_,rfl,rfl⟩
 have ha:args=[.agg #[.int .u64 (0:Nat),.slice none 0 0,.slice (some ⟨p.b,p.o+0,none⟩) 1 1],.int .u8 1,.agg #[.int .u64 1,.int .u8 2,.int .u32 0],.bool false]:=by
  simp only [SV.denL,SV.den,SI.den,SB.den,hp] at ha
  exact (Option.some.inj ha).symm
 rw [ha]
 refine (begin_ok false 1 0 none (some ⟨p.b,p.o+0,none⟩) 0 1 0 1 #[] #[3] 1 2 0 w1 (by decide) (by decide) (hin w1) h3 hb0 hb3).mono fun e w2 hR=>?_
 obtain ⟨⟨hgood,p1,n1,c1,p2,n2,c2,he,hmem⟩ | ⟨hbad,he⟩,hch⟩:=hR
 rotate_left
 ·exact absurd ⟨mayC_one,by decide,by decide,by decide⟩ hbad
 refine ⟨_,he,Goes.newMem hN hS hch (r:=.tup [.agg (rnd2S p1 n1 c1 p2 n2 c2 1 0),.int .i64 (.lit 0)]) rfl rfl (fun hold hnew=>?_)⟩
 obtain ⟨im,him⟩:∃ im,im=imNew (elsewhere [] [] w) w1 w2:=⟨_,rfl⟩
 obtain ⟨h1,h2⟩:=hmem im fun k o v hk h=>by rw [him];exact hnew _ _ _ hk h
 show X (mkE Tryz.prog Tryz.f10 Q w (InR [] []) (imNew (elsewhere [] [] w) w1 w2) (fun _ _=>False) (fun _=>True) [] B10) _ _
 rw [←him]
 clear him hold hnew hch he ha hS hN hmem
 refine X.goX ([(13,.agg (rnd2S p1 n1 c1 p2 n2 c2 2 8))]) ([]) T10_ok 400 _ rfl Tryz.results10 (fun pr pe fin hpr hpe hfin=>?_)
 conv=>cbv
 refine ⟨hpr _ (.of Tryz.call14 [rndAV false 1 0 p1 n1 c1 p2 n2 c2 1 2 0 1 0,msgV 2 3 2 1 0 1 2 0 true] (rndAV false 1 0 p1 n1 c1 p2 n2 c2 1 2 0 2 8) (fun _=>rfl) (fun _=>rfl) fun _ w1 him=>told2_ok p1 n1 c1 p2 n2 c2 w1 (h1.inB him) (h2.inB him)),hfin _ _ ?_⟩
 refine X.done T10_ok rfl (fun N w' v hN hS hv=>?_)
 rw [hQ]
 exact ⟨fin_bool hv rfl,hS.chg.none⟩
end Go.Proofs.YthaffebapmkppaaGreat
