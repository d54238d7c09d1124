import Derived.Test.YthaffebapmkppaaGreatRb4
set_option maxHeartbeats 16000000
set_option maxRecDepth 100000
set_option cbv.maxSteps 100000000
namespace Go.Proofs.YthaffebapmkppaaGreat
open Go Go.Eng
def popN:Nat→Nat→Nat
 | 0,_=>0
 | n+1,x=>popN n (x / 2)+x % 2
def repB (c:Nat):Nat→Nat
 | 0=>0
 | n+1=>repB c n*256+c
def mapB (f:Nat→Nat):Nat→Nat→Nat
 | 0,_=>0
 | n+1,x=>mapB f n (x / 256)*256+f (x % 256)
theorem and_split (a b c d:Nat) (hb:b<256) (hd:d<256):(a*256+b) &&& (c*256+d)=(a &&& c)*256+(b &&& d):=by
 have h1:∀ i,((a*256+b) &&& (c*256+d)).testBit i=((a &&& c)*256+(b &&& d)).testBit i:=fun i=>by
  have e:(256:Nat)=2 ^ 8:=by decide
  have hbd:b &&& d<2 ^ 8:=by rw [←e];exact Nat.lt_of_le_of_lt Nat.and_le_left hb
  rw [Nat.testBit_and,Nat.mul_comm a,Nat.mul_comm c,Nat.mul_comm (a &&& c),e]
  rw [Nat.testBit_two_pow_mul_add _ (by rw [←e];exact hb),Nat.testBit_two_pow_mul_add _ (by rw [←e];exact hd),Nat.testBit_two_pow_mul_add _ hbd]
  split
  ·rw [Nat.testBit_and]
  ·rw [Nat.testBit_and]
 exact Nat.eq_of_testBit_eq h1
def s1 (b:Nat):Nat:=(b / 2 &&& 85)+(b &&& 85)
def s2 (b:Nat):Nat:=(b / 4 &&& 51)+(b &&& 51)
def s3 (b:Nat):Nat:=(b / 16+b) &&& 15
theorem step1:∀ (n x:Nat),(x / 2 &&& repB 85 n)+(x &&& repB 85 n)=mapB s1 n x
 | 0,x=>by simp [repB,mapB]
 | n+1,x=>by
  have ih:=step1 n (x / 256)
  have hlo:∀ h:Fin 2,∀ l:Fin 256,(h.1*128+l.1 / 2) &&& 85=l.1 / 2 &&& 85:=by decide +kernel
  have e1:x / 2=(x / 256 / 2)*256+((x / 256 % 2)*128+x % 256 / 2):=by omega
  have e2:x=x / 256*256+x % 256:=by omega
  have h1:=hlo ⟨x / 256 % 2,by omega⟩ ⟨x % 256,by omega⟩
  simp only at h1
  have h2:x / 2 &&& repB 85 (n+1)=(x / 256 / 2 &&& repB 85 n)*256+(x % 256 / 2 &&& 85):=by
   rw [repB]
   conv=>lhs;rw [e1]
   rw [and_split _ _ _ _ (by omega) (by decide),h1]
  have h3:x &&& repB 85 (n+1)=(x / 256 &&& repB 85 n)*256+(x % 256 &&& 85):=by
   rw [repB]
   conv=>lhs;rw [e2]
   rw [and_split _ _ _ _ (by omega) (by decide)]
  rw [h2,h3,mapB,←ih,s1]
  omega
theorem step2:∀ (n x:Nat),(x / 4 &&& repB 51 n)+(x &&& repB 51 n)=mapB s2 n x
 | 0,x=>by simp [repB,mapB]
 | n+1,x=>by
  have ih:=step2 n (x / 256)
  have hlo:∀ h:Fin 4,∀ l:Fin 256,(h.1*64+l.1 / 4) &&& 51=l.1 / 4 &&& 51:=by decide +kernel
  have e1:x / 4=(x / 256 / 4)*256+((x / 256 % 4)*64+x % 256 / 4):=by omega
  have e2:x=x / 256*256+x % 256:=by omega
  have h1:=hlo ⟨x / 256 % 4,by omega⟩ ⟨x % 256,by omega⟩
  simp only at h1
  have h2:x / 4 &&& repB 51 (n+1)=(x / 256 / 4 &&& repB 51 n)*256+(x % 256 / 4 &&& 51):=by
   rw [repB]
   conv=>lhs;rw [e1]
   rw [and_split _ _ _ _ (by omega) (by decide),h1]
  have h3:x &&& repB 51 (n+1)=(x / 256 &&& repB 51 n)*256+(x % 256 &&& 51):=by
   rw [repB]
   conv=>lhs;rw [e2]
   rw [and_split _ _ _ _ (by omega) (by decide)]
  rw [h2,h3,mapB,←ih,s2]
  omega
theorem s12_le:∀ l:Fin 256,s2 (s1 l.1) % 16≤4∧s2 (s1 l.1) / 16≤4∧s1 l.1<256∧s3 (s2 (s1 l.1))=popN 8 l.1∧s2 (s1 l.1)<256:=by decide +kernel
def nib:Nat→Nat→Prop
 | 0,x=>x=0
 | n+1,x=>x % 16≤4∧x % 256 / 16≤4∧nib n (x / 256)
theorem step3:∀ (n x:Nat),nib n x→(x / 16+x) &&& repB 15 n=mapB s3 n x
 | 0,x,_=>by simp [repB,mapB]
 | n+1,x,⟨h1,h2,h3⟩=>by
  have ih:=step3 n (x / 256) h3
  have hlo:∀ h:Fin 5,∀ l:Fin 5,∀ m:Fin 5,(((m.1+h.1)*16+(h.1+l.1)) &&& 15)=(((h.1*16+l.1) / 16+(h.1*16+l.1)) &&& 15):=by decide +kernel
  have hm:x / 256 % 16≤4:=by
   cases n with
   | zero=>have:x / 256=0:=h3;omega
   | succ n=>exact h3.1
  have e1:x / 16+x=(x / 256 / 16+x / 256)*256+((x / 256 % 16+x % 256 / 16)*16+(x % 256 / 16+x % 16)):=by omega
  have k:=hlo ⟨x % 256 / 16,by omega⟩ ⟨x % 16,by omega⟩ ⟨x / 256 % 16,by omega⟩
  simp only at k
  rw [repB,e1,and_split _ _ _ _ (by omega) (by decide),ih,mapB,k,s3]
  congr 2
  omega
theorem mapB_comp (f g:Nat→Nat) (hf:∀ l,l<256→f l<256):∀ (n x:Nat),mapB g n (mapB f n x)=mapB (fun b=>g (f b)) n x
 | 0,_=>rfl
 | n+1,x=>by
  have h:=hf (x % 256) (by omega)
  rw [mapB,mapB,mapB,←mapB_comp f g hf n (x / 256)]
  congr 2
  ·congr 1;omega
  ·congr 1;omega
theorem nib_of:∀ (n x:Nat),nib n (mapB (fun b=>s2 (s1 b)) n x)
 | 0,x=>rfl
 | n+1,x=>by
  obtain ⟨h1,h2,_,_,h5⟩:=s12_le ⟨x % 256,by omega⟩
  simp only at h1 h2 h5
  rw [mapB]
  refine ⟨by omega,by omega,?_⟩
  have:=nib_of n (x / 256)
  rwa [show (mapB (fun b=>s2 (s1 b)) n (x / 256)*256+s2 (s1 (x % 256))) / 256=mapB (fun b=>s2 (s1 b)) n (x / 256) by omega]
theorem popN_add:∀ (a b x:Nat),popN (a+b) x=popN a (x / 2 ^ b)+popN b x
 | a,0,x=>by simp [popN]
 | a,b+1,x=>by
  rw [←Nat.add_assoc,popN,popN_add a b (x / 2),popN]
  rw [Nat.div_div_eq_div_mul,Nat.pow_succ,Nat.mul_comm 2,Nat.add_assoc]
theorem popN_mod:∀ (b x:Nat),popN b (x % 2 ^ b)=popN b x
 | 0,_=>rfl
 | b+1,x=>by
  rw [popN,popN,Nat.pow_succ,show x % (2 ^ b*2) / 2=x / 2 % 2 ^ b by rw [Nat.mul_comm];exact Nat.mod_mul_right_div_self _ _ _,popN_mod b (x / 2)]
  congr 1
  exact Nat.mod_mul_left_mod _ _ _
theorem pop_bytes (x:Nat) (hx:x<2 ^ 64):popN 64 x=popN 8 (x / 256 / 256 / 256 / 256 / 256 / 256 / 256 % 256)+popN 8 (x / 256 / 256 / 256 / 256 / 256 / 256 % 256)+popN 8 (x / 256 / 256 / 256 / 256 / 256 % 256)+popN 8 (x / 256 / 256 / 256 / 256 % 256)+popN 8 (x / 256 / 256 / 256 % 256)+popN 8 (x / 256 / 256 % 256)+popN 8 (x / 256 % 256)+popN 8 (x % 256):=by
 have h:∀ n y,popN (n+8) y=popN n (y / 256)+popN 8 (y % 256):=fun n y=>by
  rw [popN_add n 8 y]
  congr 1
  exact (popN_mod 8 y).symm
 rw [h 56,h 48,h 40,h 32,h 24,h 16,h 8]
 have:popN 8 (x / 256 / 256 / 256 / 256 / 256 / 256 / 256)=popN 8 (x / 256 / 256 / 256 / 256 / 256 / 256 / 256 % 256):=(popN_mod 8 _).symm
 omega
theorem pop8_le:∀ l:Fin 256,popN 8 l.1≤8:=by decide +kernel
theorem fold_bytes (c0 c1 c2 c3 c4 c5 c6 c7 c d e:Nat) (q0:c0≤8) (q1:c1≤8) (q2:c2≤8) (q3:c3≤8) (q4:c4≤8) (q5:c5≤8) (q6:c6≤8) (q7:c7≤8) (hc:c=((((((c7*256+c6)*256+c5)*256+c4)*256+c3)*256+c2)*256+c1)*256+c0)
  (hd:d=c+c / 256) (he:e=d+d / 65536):(d<18446744073709551616∧e<18446744073709551616∧e+e / 4294967296<9223372036854775808)∧(e+e / 4294967296) % 128=c7+c6+c5+c4+c3+c2+c1+c0:=by
 have hd2:c / 256=((((((c7*256+c6)*256+c5)*256+c4)*256+c3)*256+c2)*256+c1):=by clear hd he;omega
 rw [hd2,hc] at hd
 clear hd2 hc
 have hd3:d / 65536=(((((c7*256+(c6+c7))*256+(c5+c6))*256+(c4+c5))*256+(c3+c4))*256+(c2+c3)):=by
  clear he
  obtain ⟨t,ht⟩:∃ t,t=(((((c7*256+(c6+c7))*256+(c5+c6))*256+(c4+c5))*256+(c3+c4))*256+(c2+c3)):=⟨_,rfl⟩
  have:d=t*65536+((c1+c2)*256+(c0+c1)):=by omega
  rw [←ht]
  clear hd ht
  omega
 rw [hd3] at he
 have he2:e=(((((((c7*256+(c6+c7))*256+(c5+c6+c7))*256+(c4+c5+c6+c7))*256+(c3+c4+c5+c6))*256+(c2+c3+c4+c5))*256+(c1+c2+c3+c4))*256+(c0+c1+c2+c3)):=by
  clear hd3
  omega
 have hd8:d<18446744073709551616:=by clear hd3 he he2;omega
 clear hd3 he hd
 have he3:e / 4294967296=(((c7*256+(c6+c7))*256+(c5+c6+c7))*256+(c4+c5+c6+c7)):=by
  obtain ⟨t,ht⟩:∃ t,t=(((c7*256+(c6+c7))*256+(c5+c6+c7))*256+(c4+c5+c6+c7)):=⟨_,rfl⟩
  have:e=t*4294967296+((((c3+c4+c5+c6)*256+(c2+c3+c4+c5))*256+(c1+c2+c3+c4))*256+(c0+c1+c2+c3)):=by omega
  rw [←ht]
  clear he2 ht hd8
  omega
 rw [he3]
 have hs:e+((((c7*256+(c6+c7))*256+(c5+c6+c7))*256+(c4+c5+c6+c7)))=128*(2*((((((c7*256+(c6+c7))*256+(c5+c6+c7))*256+(c4+c5+c6+c7))*256+(c3+c4+c5+c6+c7))*256+(c2+c3+c4+c5+c6+c7))*256+(c1+c2+c3+c4+c5+c6+c7)))+(c7+c6+c5+c4+c3+c2+c1+c0):=by
  clear he3 hd8
  omega
 have h1:e<18446744073709551616:=by clear he3 hs hd8;omega
 have h2:e+((((c7*256+(c6+c7))*256+(c5+c6+c7))*256+(c4+c5+c6+c7)))<9223372036854775808:=by clear he3 hs hd8 h1;omega
 refine ⟨⟨hd8,h1,h2⟩,?_⟩
 rw [hs,Nat.mul_add_mod]
 exact Nat.mod_eq_of_lt (by clear hs h1 h2 he2 he3 hd8;omega)
theorem ones_law (x:Nat) (hx:x<2 ^ 64) (a b c d e:Nat) (ha:a=(x / 2 &&& 6148914691236517205)+(x &&& 6148914691236517205)) (hb:b=(a / 4 &&& 3689348814741910323)+(a &&& 3689348814741910323)) (hc:c=(b / 16+b) &&& 1085102592571150095) (hd:d=c+c / 256) (he:e=d+d / 65536) :
  (a<18446744073709551616∧b<18446744073709551616∧b / 16+b<18446744073709551616∧d<18446744073709551616∧e<18446744073709551616∧e+e / 4294967296<9223372036854775808)∧(e+e / 4294967296) % 128=popN 64 x:=by
 have r1:repB 85 8=6148914691236517205:=by decide
 have r2:repB 51 8=3689348814741910323:=by decide
 have r3:repB 15 8=1085102592571150095:=by decide
 have ha:a=mapB s1 8 x:=by rw [ha,←step1 8 x,r1]
 have hb:b=mapB (fun b=>s2 (s1 b)) 8 x:=by
  have:=step2 8 a
  rw [r2,←hb,ha,mapB_comp s1 s2 (fun l hl=>(s12_le ⟨l,hl⟩).2.2.1)] at this
  exact this
 have hc:c=mapB (fun l=>s3 (s2 (s1 l))) 8 x:=by
  have:=step3 8 b (by rw [hb];exact nib_of 8 x)
  rw [r3,←hc,hb,mapB_comp _ s3 (fun l hl=>(s12_le ⟨l,hl⟩).2.2.2.2)] at this
  exact this
 have hp:∀ y,s3 (s2 (s1 (y % 256)))=popN 8 (y % 256):=fun y=>(s12_le ⟨y % 256,by omega⟩).2.2.2.1
 have hq:∀ y,popN 8 (y % 256)≤8:=fun y=>pop8_le ⟨y % 256,by omega⟩
 have mapB_le:∀ (f:Nat→Nat) (m:Nat),(∀ l,l<256→f l≤m)→∀ n x,mapB f n x≤repB m n:=fun f m hf n=>by
  induction n with
  | zero=>intro x;exact Nat.le_refl _
  | succ n ih =>
   intro x
   have h1:=ih (x / 256)
   have h2:=hf (x % 256) (by omega)
   rw [mapB,repB]
   omega
 have ha8:a≤18446744073709551615:=by
  rw [ha]
  exact mapB_le s1 255 (fun l hl=>by have:=(s12_le ⟨l,hl⟩).2.2.1;simp only at this;omega) 8 x
 have hb8:b≤4919131752989213764:=by
  rw [hb]
  exact mapB_le _ 68 (fun l hl=>by have h1:=(s12_le ⟨l,hl⟩).1;have h2:=(s12_le ⟨l,hl⟩).2.1;simp only at h1 h2;omega) 8 x
 rw [pop_bytes x hx]
 simp only [mapB,hp] at hc
 have key:=fold_bytes _ _ _ _ _ _ _ _ c d e (hq x) (hq (x / 256)) (hq (x / 256 / 256)) (hq (x / 256 / 256 / 256)) (hq (x / 256 / 256 / 256 / 256)) (hq (x / 256 / 256 / 256 / 256 / 256)) (hq (x / 256 / 256 / 256 / 256 / 256 / 256)) (hq (x / 256 / 256 / 256 / 256 / 256 / 256 / 256)) (by rw [hc,Nat.zero_mul,Nat.zero_add]) hd he
 exact ⟨⟨by clear key hc hb8;omega,by clear key hc ha8;omega,by clear key hc ha8;omega,key.1⟩,key.2⟩
end Go.Proofs.YthaffebapmkppaaGreat
namespace Go.Proofs.YthaffebapmkppaaGreat
open Go Go.Eng Go.Sort
theorem Sat.addRoW {E:Env} {N:Nums} {rg:List Rg} {w:World} (h:Sat E N rg w) {b o x s0:Nat} {cs:List SV} (hN:∀ (r:Nat) (p:Num),N[r]?=some p→p.b<s0) (hs0:0<cs.length→s0≤b) (hb:b<w.heap.size)
  (hcs:∀ (j:Nat) (c:SV),cs[j]?=some c→∃ v,c.den N=some v∧w.cell? ⟨b,o+j,none⟩=some v):Sat E (N++[⟨b,o,x⟩]) (rg++[⟨false,cs,none⟩]) w:=by
 rcases Nat.eq_zero_or_pos cs.length with h0 | h0
 ·obtain rfl:cs=[]:=List.eq_nil_of_length_eq_zero h0
  have hle:N.le (N++[⟨b,o,x⟩]):=Nums.le_append _ _
  refine ⟨by simp [h.len],?_,?_,?_,?_,?_,?_,?_,h.imm,?_,?_,h.dlt,h.loc,h.res,h.chg,?_⟩
  ·intro i q hq
   rcases Nat.lt_or_ge i N.length with hi | hi
   ·rw [List.getElem?_append_left hi] at hq;exact h.lt i q hq
   ·rw [List.getElem?_append_right hi] at hq
    have hz:i-N.length=0:=by
     have:=(List.getElem?_eq_some_iff.1 hq).1
     simp at this;omega
    rw [hz] at hq;simp at hq;subst hq;exact hb
  ·intro i g q hg hq j d hj
   rcases get_snoc h.len hg hq with ⟨a,b⟩ | ⟨_,rfl,rfl⟩
   ·obtain ⟨v,h1,h2⟩:=h.cell i g q a b j d hj
    exact ⟨v,SV.den_mono hle d h1,h2⟩
   ·simp at hj
  ·intro i g q hg hq ho
   rcases get_snoc h.len hg hq with ⟨a,b⟩ | ⟨_,rfl,rfl⟩
   ·exact h.ext i g q a b ho
   ·cases ho
  ·intro i g q hg hq ho
   rcases get_snoc h.len hg hq with ⟨a,b⟩ | ⟨_,rfl,rfl⟩
   ·exact h.room i g q a b ho
   ·cases ho
  ·intro i i' g g' q q' hg hq hg' hq' ho hne j hj hb'
   rcases get_snoc h.len hg hq with ⟨a1,a2⟩ | ⟨a0,rfl,rfl⟩
   ·rcases get_snoc h.len hg' hq' with ⟨b1,b2⟩ | ⟨b0,rfl,rfl⟩
    ·exact h.disj i i' g g' q q' a1 a2 b1 b2 ho hne j hj hb'
    ·exact absurd hj (Nat.not_lt_zero j)
   ·cases ho
  ·intro i g q ob hg hq ho
   rcases get_snoc h.len hg hq with ⟨a,b⟩ | ⟨_,rfl,rfl⟩
   ·obtain ⟨⟨o',k1,k2⟩,k3⟩:=h.obj i g q ob a b ho
    exact ⟨⟨o',Ob.den_mono hle ob k1,k2⟩,k3⟩
   ·simp at ho
  ·intro i i' g g' q q' hg hq hg' hq' ho ho' hne
   rcases get_snoc h.len hg hq with ⟨a1,a2⟩ | ⟨a0,rfl,rfl⟩
   ·rcases get_snoc h.len hg' hq' with ⟨b1,b2⟩ | ⟨b0,rfl,rfl⟩
    ·exact h.odisj i i' g g' q q' a1 a2 b1 b2 ho ho' hne
    ·simp at ho'
   ·simp at ho
  ·intro i g q hg hq ho
   rcases get_snoc h.len hg hq with ⟨a,b⟩ | ⟨_,rfl,rfl⟩
   ·exact h.imd i g q a b ho
   ·cases ho
  ·intro i g q hg hq ho
   rcases get_snoc h.len hg hq with ⟨a,b⟩ | ⟨_,rfl,rfl⟩
   ·exact h.dd i g q a b ho
   ·cases ho
  ·intro i g q hg hq ho
   rcases get_snoc h.len hg hq with ⟨a,b⟩ | ⟨_,rfl,rfl⟩
   ·exact h.foot i g q a b ho
   ·cases ho
 ·exact Sat.addRo h hN (hs0 h0) hb hcs
theorem RoR.sat {E:Env} {N:Nums} {rg:List Rg} {w w':World} {cs:List SV} {n sz:Nat} {e:Ending} (hz:0<sz) (hf:RoR cs n w e w') (h:Sat E N rg w) :
  ∃ N' v,e=.returned v∧N.le N'∧(SV.osl rg.length 0 n sz none).den N'=some v∧Sat E N' (rg++[⟨false,cs,none⟩]) w':=by
 obtain ⟨b,o,c,he,h1,h2,h3,hc⟩:=hf
 have hget:(N++[⟨b,o,sz*c⟩]:Nums)[rg.length]?=some ⟨b,o,sz*c⟩:=by rw [←h.len];simp
 refine ⟨N++[⟨b,o,sz*c⟩],_,he,Nums.le_append _ _,by simp only [SV.den,hget,Num.cap,Nat.add_zero,Nat.sub_zero,Nat.mul_div_cancel_left _ hz],?_⟩
 exact Sat.addRoW (h.after0 hc) (s0:=w.heap.size) (fun r p hp=>h.lt r p hp) h1 h2 (fun j c hj=>by
  obtain ⟨v,k1,k2⟩:=h3 j c hj
  exact ⟨v,k1 N,k2⟩)
theorem bits_and (a b:Nat) (ha:a<2 ^ 64) (hb:b<2 ^ 64):bitsI .and .u64 a b=((a &&& b:Nat):Int):=by
 have h1:a &&& b<2 ^ 64:=Nat.lt_of_le_of_lt Nat.and_le_left ha
 show IntKind.u64.wrap (((BitVec.ofInt 64 (a:Int) &&& BitVec.ofInt 64 (b:Int)).toNat:Nat):Int)=_
 have e1:(BitVec.ofInt 64 (a:Int))=BitVec.ofNat 64 a:=by simp
 have e2:(BitVec.ofInt 64 (b:Int))=BitVec.ofNat 64 b:=by simp
 rw [wrap64,e1,e2,BitVec.toNat_and,BitVec.toNat_ofNat,BitVec.toNat_ofNat,Nat.mod_eq_of_lt ha,Nat.mod_eq_of_lt hb]
 omega
theorem bits_or (a b:Nat) (ha:a<2 ^ 64) (hb:b<2 ^ 64):bitsI .or .u64 a b=((a ||| b:Nat):Int):=by
 have h1:a ||| b<2 ^ 64:=Nat.or_lt_two_pow ha hb
 show IntKind.u64.wrap (((BitVec.ofInt 64 (a:Int) ||| BitVec.ofInt 64 (b:Int)).toNat:Nat):Int)=_
 have e1:(BitVec.ofInt 64 (a:Int))=BitVec.ofNat 64 a:=by simp
 have e2:(BitVec.ofInt 64 (b:Int))=BitVec.ofNat 64 b:=by simp
 rw [wrap64,e1,e2,BitVec.toNat_or,BitVec.toNat_ofNat,BitVec.toNat_ofNat,Nat.mod_eq_of_lt ha,Nat.mod_eq_of_lt hb]
 omega
theorem bits_xor (a b:Nat) (ha:a<2 ^ 64) (hb:b<2 ^ 64):bitsI .xor .u64 a b=((a ^^^ b:Nat):Int):=by
 have h1:a ^^^ b<2 ^ 64:=Nat.xor_lt_two_pow ha hb
 show IntKind.u64.wrap (((BitVec.ofInt 64 (a:Int) ^^^ BitVec.ofInt 64 (b:Int)).toNat:Nat):Int)=_
 have e1:(BitVec.ofInt 64 (a:Int))=BitVec.ofNat 64 a:=by simp
 have e2:(BitVec.ofInt 64 (b:Int))=BitVec.ofNat 64 b:=by simp
 rw [wrap64,e1,e2,BitVec.toNat_xor,BitVec.toNat_ofNat,BitVec.toNat_ofNat,Nat.mod_eq_of_lt ha,Nat.mod_eq_of_lt hb]
 omega
theorem shr_nat (x k:Nat):(x:Int).fdiv (2 ^ k)=((x / 2 ^ k:Nat):Int):=by
 have h:(0:Int)≤2 ^ k:=by exact_mod_cast Nat.zero_le (2 ^ k)
 rw [Int.fdiv_eq_ediv_of_nonneg _ h]
 have:((2:Int) ^ k)=((2 ^ k:Nat):Int):=by simp
 rw [this]
 exact (Int.natCast_ediv _ _).symm
theorem wrapU64 (n:Nat) (h:n<18446744073709551616):IntKind.u64.wrap (n:Int)=n:=by
 rw [wrap64]
 omega
theorem and127 (y:Nat) (h:y<9223372036854775808):bitsI .and .i64 (y:Int) 127=((y % 128:Nat):Int):=by
 have h1:y &&& 127=y % 128:=Nat.and_two_pow_sub_one_eq_mod y 7
 show IntKind.i64.wrap (((BitVec.ofInt 64 (y:Int) &&& BitVec.ofInt 64 ((127:Nat):Int)).toNat:Nat):Int)=_
 have e1:(BitVec.ofInt 64 (y:Int))=BitVec.ofNat 64 y:=by simp
 have e2:(BitVec.ofInt 64 ((127:Nat):Int))=BitVec.ofNat 64 127:=by simp
 rw [e1,e2,BitVec.toNat_and,BitVec.toNat_ofNat,BitVec.toNat_ofNat,Nat.mod_eq_of_lt (by omega),Nat.mod_eq_of_lt (show 127<2 ^ 64 by decide),h1]
 exact wrapN _ (by omega) (by omega)
theorem ones_ok (x:Nat) (w:World) (hx:x<2 ^ 64):Calls Tryz.prog 62 #[.int .u64 x] w fun e w'=>e=.returned (.int .i64 (popN 64 x))∧Chg (fun _ _=>False) w w':=by
 refine X.begin (rg:=[]) (N:=[]) (ss:=[.int .u64 (.nat x)]) Tryz.func62 rfl B62_ok rfl rfl Sat.std0 ?_
 refine X.go T62_ok 400 _ rfl Tryz.results62 ?_
 conv=>arg 2;cbv
 refine X.done T62_ok rfl (fun N w' v hN hS hv=>⟨fin_int hv ?_,hS.chg.none⟩)
 obtain ⟨a,ha⟩:∃ a,a=(x / 2 &&& 6148914691236517205)+(x &&& 6148914691236517205):=⟨_,rfl⟩
 obtain ⟨b,hb⟩:∃ b,b=(a / 4 &&& 3689348814741910323)+(a &&& 3689348814741910323):=⟨_,rfl⟩
 obtain ⟨c,hc⟩:∃ c,c=(b / 16+b) &&& 1085102592571150095:=⟨_,rfl⟩
 obtain ⟨d,hd⟩:∃ d,d=c+c / 256:=⟨_,rfl⟩
 obtain ⟨e,he⟩:∃ e,e=d+d / 65536:=⟨_,rfl⟩
 obtain ⟨⟨k1,k2,k3,k4,k5,k6⟩,k7⟩:=ones_law x hx a b c d e ha hb hc hd he
 have L1:(6148914691236517205:Int)=((6148914691236517205:Nat):Int):=rfl
 have L2:(3689348814741910323:Int)=((3689348814741910323:Nat):Int):=rfl
 have L3:(1085102592571150095:Int)=((1085102592571150095:Nat):Int):=rfl
 have A:IntKind.u64.wrap (bitsI .and .u64 ((x:Int).fdiv (2 ^ 1)) 6148914691236517205+bitsI .and .u64 x 6148914691236517205)=(a:Int):=by
  rw [shr_nat,L1,bits_and _ _ (by omega) (by decide),bits_and _ _ hx (by decide),←Int.natCast_add,←ha,wrapU64 a k1]
 have Bb:IntKind.u64.wrap (bitsI .and .u64 ((a:Int).fdiv (2 ^ 2)) 3689348814741910323+bitsI .and .u64 a 3689348814741910323)=(b:Int):=by
  rw [shr_nat,L2,bits_and _ _ (by omega) (by decide),bits_and _ _ k1 (by decide),←Int.natCast_add,←hb,wrapU64 b k2]
 have C:bitsI .and .u64 (IntKind.u64.wrap ((b:Int).fdiv (2 ^ 4)+b)) 1085102592571150095=(c:Int):=by
  rw [shr_nat,←Int.natCast_add,wrapU64 _ k3,L3,bits_and _ _ k3 (by decide),←hc]
 have Dd:IntKind.u64.wrap ((c:Int)+(c:Int).fdiv (2 ^ 8))=(d:Int):=by
  rw [shr_nat,←Int.natCast_add,←hd,wrapU64 d k4]
 have Ee:IntKind.u64.wrap ((d:Int)+(d:Int).fdiv (2 ^ 16))=(e:Int):=by
  rw [shr_nat,←Int.natCast_add,←he,wrapU64 e k5]
 have Ff:IntKind.u64.wrap ((e:Int)+(e:Int).fdiv (2 ^ 32))=((e+e / 4294967296:Nat):Int):=by
  rw [shr_nat,←Int.natCast_add,wrapU64 _ (by omega)]
 simp only [SI.den,A,Bb,C,Dd,Ee,Ff]
 rw [wrapN _ (by omega) (by omega),and127 _ k6,k7]
def setS (s:Nat) (x:Int):Nat:=if x<64 then s ||| 2 ^ x.toNat else s
def setN (l:List Int):Nat:=l.foldl setS 0
theorem setN_lt:∀ (l:List Int) (s:Nat),s<2 ^ 64→l.foldl setS s<2 ^ 64
 | [],_,h=>h
 | x::l,s,h=>by
  rw [List.foldl_cons]
  refine setN_lt l _ ?_
  unfold setS
  split
  ·exact Nat.or_lt_two_pow h (Nat.pow_lt_pow_right (by decide) (by omega))
  ·exact h
def othN (l m:List Int):Nat:=l.countP fun x=>decide (x∉m)
def cntN (l:List Int) (s:Nat):Nat:=l.countP fun x=>s.testBit x.toNat
theorem countP_take {p:Int→Bool} {l:List Int} {i:Nat} (h:i<l.length):(l.take (i+1)).countP p=(l.take i).countP p+if p l[i]! then 1 else 0:=by
 rw [take_snoc h,List.countP_append,List.countP_cons]
 simp
theorem vk_shl1 {E:Env} {N0:Nums} {rg:List Rg} {f:Fr} {g:GK} {t ty:TypeId} {x y:Operand} {ka kb:IntKind} {a b:SI} {n:Nat} (hx:evK f g x=some (.int ka a)) (hy:evK f g y=some (.int kb b)) (ha:a.den=1) (hk:ka=.u64) (hz:g.T→b.den=(n:Int)) (hn:n<64):ValOk E N0 rg f g (.binOp .shl t x y ty) (.int .u64 (.nat (2 ^ n))):=by
 intro ht N ρ o w hN0 hop hρ hV
 have h1:=hρ _ _ hx
 have h2:=hρ _ _ hy
 simp only [SV.den,Option.some.injEq] at h1 h2
 subst hk
 have hb:=hz ht
 rw [ha] at h1
 rw [hb] at h2
 refine ⟨.int .u64 ((2 ^ n:Nat):Int),rfl,fun w' _=>?_⟩
 have h3:(do eqGuard .shl t x y (ρ x) (ρ y);binOp .shl t (ρ x) (ρ y):Sem Value).run E.P w'=.ok (.int .u64 ((2 ^ n:Nat):Int)) w':=by
  rw [←h1,←h2]
  simp only [Sem.run_bind]
  rw [eqGuard_none _ _ _ _ (by simp) (by simp)]
  have hw:IntKind.u64.wrap (1*2 ^ min (n:Int).toNat IntKind.u64.bits)=((2 ^ n:Nat):Int):=by
   have e:min (n:Int).toNat IntKind.u64.bits=n:=by simp [IntKind.bits];omega
   rw [e,Int.one_mul,show ((2:Int) ^ n)=((2 ^ n:Nat):Int) by simp]
   exact wrapU64 _ (by have:=Nat.pow_lt_pow_right (a:=2) (by decide) hn;simpa using this)
  have hnn:¬(n:Int)<0:=by omega
  simp only [Result.andThen,binOp,Op.shift]
  rw [if_neg hnn,hw]
  rfl
 simp only [execOp,hop]
 rw [Sem.run_bind,h3]
 rfl
theorem set_ok (p:Option Addr) (n c:Nat) (d:Array Int) (w:World) (hle:n≤100000) (hA:InB p n d w) (hb:∀ x∈d.toList,0≤x∧x<256):Calls Tryz.prog 63 #[.slice p n c] w fun e w'=>e=.returned (.int .u64 (setN d.toList))∧Chg (fun _ _=>False) w w':=by
 have hn:=hA.1
 obtain ⟨Q,hQ⟩:∃ Q:Ending→World→Prop,Q=fun e w'=>e=.returned (.int .u64 (setN d.toList))∧Chg (fun _ _=>False) w w':=⟨_,rfl⟩
 rw [←hQ]
 refine X.begin (rg:=[]) (N:=[]) (ss:=[.slv p n c]) Tryz.func63 rfl B63_ok rfl rfl Sat.std0 ?_
 refine X.go T63_ok 400 _ rfl Tryz.results63 ?_
 conv=>arg 2;cbv
 refine X.loop (fun _:{i:Nat // i≤n}=>mkE Tryz.prog Tryz.f63 Q w (InR [] []) (elsewhere [] [] w) (fun _ _=>False) (fun _=>True) [] B63)
  (fun g=>⟨[(3,.val (.int .u64 (.nat (setN (d.toList.take g.1))))),(6,.val (.slv p n c)),(7,.val (.int .i64 (.nat n))),(8,.val (.int .i64 (.nat g.1)))],[]⟩) (fun g=>n-g.1) (fun _=>⟨rfl,rfl,rfl,rfl⟩) (fun N ac w' hN hf hS=>⟨⟨0,Nat.zero_le _⟩,?_⟩) (fun g q hq=>?_)
 ·exact At.again hf hS (by repeat first | exact trivial | refine ⟨⟨_,rfl,.inl ⟨rfl,rfl⟩⟩,?_⟩ | refine ⟨⟨_,rfl,.inr ⟨_,rfl,rfl⟩⟩,?_⟩ | refine ⟨⟨_,rfl,.inr ⟨_,rfl,by simp (disch:=omega) [SV.den,SI.den,wrapU,wrapD]<;>omega⟩⟩,?_⟩) trivial
 obtain ⟨i,hi⟩:=g
 show X (mkE Tryz.prog Tryz.f63 Q w (InR [] []) (elsewhere [] [] w) (fun _ _=>False) (fun _=>True) [] B63) _ ⟨[(3,.val (.int .u64 (.nat (setN (d.toList.take i))))),(6,.val (.slv p n c)),(7,.val (.int .i64 (.nat n))),(8,.val (.int .i64 (.nat i)))],[]⟩
 obtain ⟨s,hs⟩:∃ s,s=setN (d.toList.take i):=⟨_,rfl⟩
 have hs8:s<2 ^ 64:=by rw [hs];exact setN_lt _ 0 (by decide)
 rw [←hs]
 refine X.go T63_ok 400 _ rfl Tryz.results63 ?_
 conv=>arg 2;cbv
 refine X.cond rfl (fun hlt=>?_) (fun hge=>?_)
 ·simp only [SB.T,SI.den] at hlt
  have hlt:i<n:=by omega
  obtain ⟨b,y,hp,hd⟩:=hA.2 (by omega)
  obtain ⟨x,hx⟩:∃ x,x=d[i]! := ⟨_,rfl⟩
  have hxl:d.toList[i]! = x:=by rw [hx,getElem!_pos d i (by omega),getElem!_pos d.toList i (by simp;omega)];simp
  obtain ⟨oi,hoi⟩:∃ o,o=y+i:=⟨_,rfl⟩
  have hix:elsewhere [] [] w b (oi+0)=some (.int .u8 x):=by rw [Nat.add_zero,els_old,hoi,hx];exact hd i (by omega)
  have hxm:x∈d.toList:=by rw [←hxl,getElem!_pos d.toList i (by simp;omega)];exact List.getElem_mem _
  have hst:setN (d.toList.take (i+1))=setS s x:=by unfold setN;rw [foldl_take _ _ (by simp;omega),hxl,hs];rfl
  refine X.goP ([(10,.ext b oi 0),(11,.int .u8 (.v x))]) T63_ok 400 _ rfl Tryz.results63 (fun pr fin hpr hfin=>?_)
  conv=>cbv
  refine ⟨hpr _ (ValOk.im1 rfl Tryz.isAgg5 (fun _=>rfl) fun _=>hix),hpr _ (ValOk.at (z:=i) rfl rfl (fun _=>rfl) Tryz.underlying23 Tryz.sizeOf5 (fun _=>hlt) hp (by omega)),hfin _ _ ?_⟩
  refine X.cond rfl (fun hT=>?_) (fun hF=>?_)
  ·simp only [SB.T,SI.den] at hT
   obtain ⟨xn,hxn,_⟩:=byteN (hb x hxm)
   have hx64:xn<64:=by omega
   have hp2:2 ^ xn<2 ^ 64:=Nat.pow_lt_pow_right (by decide) hx64
   obtain ⟨t2,ht2⟩:∃ t,t=2 ^ xn:=⟨_,rfl⟩
   have hst2:setS s x=s ||| t2:=by unfold setS;rw [if_pos hT,hxn,ht2];simp
   have hor:=bits_or s t2 hs8 (by rw [ht2];exact hp2)
   refine X.goP ([(16,.int .u64 (.nat t2))]) T63_ok 400 _ rfl Tryz.results63 (fun pr fin hpr hfin=>?_)
   conv=>cbv
   refine ⟨hpr _ (by rw [ht2];exact vk_shl1 rfl rfl rfl rfl (fun _=>hxn) hx64),hfin _ _ ?_⟩
   refine X.reval 3 (.int .u64 (.nat (s ||| t2))) rfl (fun N _ v hv=>by rw [←hv];simp only [SV.den,SI.den,hor]) ?_
   refine X.back (fun N ac w' hN hf hS=>hq ⟨i+1,hlt⟩ ac w' (by simp only;omega) ?_)
   show At (mkE Tryz.prog Tryz.f63 Q w (InR [] []) (elsewhere [] [] w) (fun _ _=>False) (fun _=>True) [] B63) ⟨[(3,.val (.int .u64 (.nat (setN (d.toList.take (i+1)))))),(6,.val (.slv p n c)),(7,.val (.int .i64 (.nat n))),(8,.val (.int .i64 (.nat (i+1))))],[]⟩ ac w'
   rw [hst,hst2]
   exact At.again hf hS (by repeat first | exact trivial | refine ⟨⟨_,rfl,.inl ⟨rfl,rfl⟩⟩,?_⟩ | refine ⟨⟨_,rfl,.inr ⟨_,rfl,rfl⟩⟩,?_⟩ | refine ⟨⟨_,rfl,.inr ⟨_,rfl,by simp (disch:=omega) [SV.den,SI.den,wrapU,wrapD]<;>omega⟩⟩,?_⟩) trivial
  ·simp only [SB.F,SI.den] at hF
   have hst2:setS s x=s:=by unfold setS;rw [if_neg (by omega)]
   refine X.go T63_ok 400 _ rfl Tryz.results63 ?_
   conv=>arg 2;cbv
   refine X.back (fun N ac w' hN hf hS=>hq ⟨i+1,hlt⟩ ac w' (by simp only;omega) ?_)
   show At (mkE Tryz.prog Tryz.f63 Q w (InR [] []) (elsewhere [] [] w) (fun _ _=>False) (fun _=>True) [] B63) ⟨[(3,.val (.int .u64 (.nat (setN (d.toList.take (i+1)))))),(6,.val (.slv p n c)),(7,.val (.int .i64 (.nat n))),(8,.val (.int .i64 (.nat (i+1))))],[]⟩ ac w'
   rw [hst,hst2]
   exact At.again hf hS (by repeat first | exact trivial | refine ⟨⟨_,rfl,.inl ⟨rfl,rfl⟩⟩,?_⟩ | refine ⟨⟨_,rfl,.inr ⟨_,rfl,rfl⟩⟩,?_⟩ | refine ⟨⟨_,rfl,.inr ⟨_,rfl,by simp (disch:=omega) [SV.den,SI.den,wrapU,wrapD]<;>omega⟩⟩,?_⟩) trivial
 ·simp only [SB.F,SI.den] at hge
  have hall:d.toList.take i=d.toList:=List.take_of_length_le (by simp;omega)
  refine X.go T63_ok 400 _ rfl Tryz.results63 ?_
  conv=>arg 2;cbv
  refine X.done T63_ok rfl (fun N w' v hN hS hv=>?_)
  rw [hQ]
  exact ⟨fin_int hv (by rw [←hall,←hs];rfl),hS.chg.none⟩
theorem has10_ok (p:Option Addr) (n c:Nat) (d:Array Int) (z:Int) (w:World) (hle:n≤100000) (hA:InB p n d w):Calls Tryz.prog 59 #[.slice p n c,.int .u8 z] w fun e w'=>e=.returned (.bool (decide (z∈d.toList)))∧Chg (fun _ _=>False) w w':=by
 have hn:=hA.1
 obtain ⟨Q,hQ⟩:∃ Q:Ending→World→Prop,Q=fun e w'=>e=.returned (.bool (decide (z∈d.toList)))∧Chg (fun _ _=>False) w w':=⟨_,rfl⟩
 rw [←hQ]
 refine X.begin (rg:=[]) (N:=[]) (ss:=[.slv p n c,.int .u8 (.v z)]) Tryz.func59 rfl B59_ok rfl rfl Sat.std0 ?_
 refine X.go T59_ok 400 _ rfl Tryz.results59 ?_
 conv=>arg 2;cbv
 refine X.loop (fun _:{i:Nat // i≤n∧¬z∈d.toList.take i}=>mkE Tryz.prog Tryz.f59 Q w (InR [] []) (elsewhere [] [] w) (fun _ _=>False) (fun _=>True) [] B59)
  (fun g=>⟨[(0,.val (.slv p n c)),(1,.val (.int .u8 (.v z))),(7,.val (.int .i64 (.nat n))),(8,.val (.int .i64 (.nat g.1)))],[]⟩) (fun g=>n-g.1) (fun _=>⟨rfl,rfl,rfl,rfl⟩) (fun N ac w' hN hf hS=>⟨⟨0,Nat.zero_le _,by simp⟩,?_⟩) (fun g q hq=>?_)
 ·exact At.again hf hS (by repeat first | exact trivial | refine ⟨⟨_,rfl,.inl ⟨rfl,rfl⟩⟩,?_⟩ | refine ⟨⟨_,rfl,.inr ⟨_,rfl,rfl⟩⟩,?_⟩ | refine ⟨⟨_,rfl,.inr ⟨_,rfl,by simp (disch:=omega) [SV.den,SI.den,wrapU,wrapD]<;>omega⟩⟩,?_⟩) trivial
 obtain ⟨i,hi,hex⟩:=g
 show X (mkE Tryz.prog Tryz.f59 Q w (InR [] []) (elsewhere [] [] w) (fun _ _=>False) (fun _=>True) [] B59) _ ⟨[(0,.val (.slv p n c)),(1,.val (.int .u8 (.v z))),(7,.val (.int .i64 (.nat n))),(8,.val (.int .i64 (.nat i)))],[]⟩
 refine X.go T59_ok 400 _ rfl Tryz.results59 ?_
 conv=>arg 2;cbv
 refine X.cond rfl (fun hlt=>?_) (fun hge=>?_)
 ·simp only [SB.T,SI.den] at hlt
  have hlt:i<n:=by omega
  obtain ⟨b,y,hp,hd⟩:=hA.2 (by omega)
  obtain ⟨x,hx⟩:∃ x,x=d[i]! := ⟨_,rfl⟩
  have hxl:d.toList[i]! = x:=by rw [hx,getElem!_pos d i (by omega),getElem!_pos d.toList i (by simp;omega)];simp
  obtain ⟨oi,hoi⟩:∃ o,o=y+i:=⟨_,rfl⟩
  have hix:elsewhere [] [] w b (oi+0)=some (.int .u8 x):=by rw [Nat.add_zero,els_old,hoi,hx];exact hd i (by omega)
  have hxm:x∈d.toList:=by rw [←hxl,getElem!_pos d.toList i (by simp;omega)];exact List.getElem_mem _
  have hsn:=take_snoc (l:=d.toList) (i:=i) (by simp;omega)
  rw [hxl] at hsn
  refine X.goP ([(13,.ext b oi 0),(14,.int .u8 (.v x))]) T59_ok 400 _ rfl Tryz.results59 (fun pr fin hpr hfin=>?_)
  conv=>cbv
  refine ⟨hpr _ (ValOk.im1 rfl Tryz.isAgg5 (fun _=>rfl) fun _=>hix),hpr _ (ValOk.at (z:=i) rfl rfl (fun _=>rfl) Tryz.underlying23 Tryz.sizeOf5 (fun _=>hlt) hp (by omega)),hfin _ _ ?_⟩
  refine X.cond rfl (fun he=>?_) (fun he=>?_)
  ·simp only [SB.T,SI.den] at he
   have hm:z∈d.toList:=by rw [←he];exact hxm
   refine X.go T59_ok 400 _ rfl Tryz.results59 ?_
   conv=>arg 2;cbv
   refine X.done T59_ok rfl (fun N w' v hN hS hv=>?_)
   rw [hQ]
   exact ⟨fin_bool hv (by simp [SB.den,hm]),hS.chg.none⟩
  ·simp only [SB.F,SI.den] at he
   refine X.go T59_ok 400 _ rfl Tryz.results59 ?_
   conv=>arg 2;cbv
   refine X.back (fun N ac w' hN hf hS=>hq ⟨i+1,hlt,by rw [hsn];simp [hex,Ne.symm he]⟩ ac w' (by simp only;omega) ?_)
   show At (mkE Tryz.prog Tryz.f59 Q w (InR [] []) (elsewhere [] [] w) (fun _ _=>False) (fun _=>True) [] B59) ⟨[(0,.val (.slv p n c)),(1,.val (.int .u8 (.v z))),(7,.val (.int .i64 (.nat n))),(8,.val (.int .i64 (.nat (i+1))))],[]⟩ ac w'
   exact At.again hf hS (by repeat first | exact trivial | refine ⟨⟨_,rfl,.inl ⟨rfl,rfl⟩⟩,?_⟩ | refine ⟨⟨_,rfl,.inr ⟨_,rfl,rfl⟩⟩,?_⟩ | refine ⟨⟨_,rfl,.inr ⟨_,rfl,by simp (disch:=omega) [SV.den,SI.den,wrapU,wrapD]<;>omega⟩⟩,?_⟩) trivial
 ·simp only [SB.F,SI.den] at hge
  have hm:¬z∈d.toList:=by rw [List.take_of_length_le (by simp;omega)] at hex;exact hex
  refine X.go T59_ok 400 _ rfl Tryz.results59 ?_
  conv=>arg 2;cbv
  refine X.done T59_ok rfl (fun N w' v hN hS hv=>?_)
  rw [hQ]
  exact ⟨fin_bool hv (by simp [SB.den,hm]),hS.chg.none⟩
theorem others_ok (p p2:Option Addr) (n c n2 c2:Nat) (d d2:Array Int) (w:World) (hle:n≤100000) (hle2:n2≤100000) (hA:InB p n d w) (hA2:InB p2 n2 d2 w):Calls Tryz.prog 31 #[.slice p n c,.slice p2 n2 c2] w fun e w'=>e=.returned (.int .i64 (othN d.toList d2.toList))∧Chg (fun _ _=>False) w w':=by
 have hn:=hA.1
 obtain ⟨Q,hQ⟩:∃ Q:Ending→World→Prop,Q=fun e w'=>e=.returned (.int .i64 (othN d.toList d2.toList))∧Chg (fun _ _=>False) w w':=⟨_,rfl⟩
 rw [←hQ]
 refine X.begin (rg:=[]) (N:=[]) (ss:=[.slv p n c,.slv p2 n2 c2]) Tryz.func31 rfl B31_ok rfl rfl Sat.std0 ?_
 refine X.go T31_ok 400 _ rfl Tryz.results31 ?_
 conv=>arg 2;cbv
 refine X.loop (fun _:{i:Nat // i≤n}=>mkE Tryz.prog Tryz.f31 Q w (InR [] []) (elsewhere [] [] w) (fun _ _=>False) (fun _=>True) [] B31)
  (fun g=>⟨[(0,.val (.slv p n c)),(1,.val (.slv p2 n2 c2)),(5,.val (.int .i64 (.nat (othN (d.toList.take g.1) d2.toList)))),(8,.val (.int .i64 (.nat n))),(9,.val (.int .i64 (.nat g.1)))],[]⟩) (fun g=>n-g.1) (fun _=>⟨rfl,rfl,rfl,rfl⟩) (fun N ac w' hN hf hS=>⟨⟨0,Nat.zero_le _⟩,?_⟩) (fun g q hq=>?_)
 ·exact At.again hf hS (by repeat first | exact trivial | refine ⟨⟨_,rfl,.inl ⟨rfl,rfl⟩⟩,?_⟩ | refine ⟨⟨_,rfl,.inr ⟨_,rfl,rfl⟩⟩,?_⟩ | refine ⟨⟨_,rfl,.inr ⟨_,rfl,by simp (disch:=omega) [SV.den,SI.den,wrapU,wrapD]<;>omega⟩⟩,?_⟩) trivial
 obtain ⟨i,hi⟩:=g
 show X (mkE Tryz.prog Tryz.f31 Q w (InR [] []) (elsewhere [] [] w) (fun _ _=>False) (fun _=>True) [] B31) _ ⟨[(0,.val (.slv p n c)),(1,.val (.slv p2 n2 c2)),(5,.val (.int .i64 (.nat (othN (d.toList.take i) d2.toList)))),(8,.val (.int .i64 (.nat n))),(9,.val (.int .i64 (.nat i)))],[]⟩
 obtain ⟨k,hk⟩:∃ k,k=othN (d.toList.take i) d2.toList:=⟨_,rfl⟩
 have hk8:k≤100000:=by rw [hk];exact Nat.le_trans List.countP_le_length (by simp;omega)
 rw [←hk]
 refine X.go T31_ok 400 _ rfl Tryz.results31 ?_
 conv=>arg 2;cbv
 refine X.cond rfl (fun hlt=>?_) (fun hge=>?_)
 ·simp only [SB.T,SI.den] at hlt
  have hlt:i<n:=by omega
  obtain ⟨b,y,hp,hd⟩:=hA.2 (by omega)
  obtain ⟨x,hx⟩:∃ x,x=d[i]! := ⟨_,rfl⟩
  have hxl:d.toList[i]! = x:=by rw [hx,getElem!_pos d i (by omega),getElem!_pos d.toList i (by simp;omega)];simp
  obtain ⟨oi,hoi⟩:∃ o,o=y+i:=⟨_,rfl⟩
  have hix:elsewhere [] [] w b (oi+0)=some (.int .u8 x):=by rw [Nat.add_zero,els_old,hoi,hx];exact hd i (by omega)
  have hxm:x∈d.toList:=by rw [←hxl,getElem!_pos d.toList i (by simp;omega)];exact List.getElem_mem _
  have hst:othN (d.toList.take (i+1)) d2.toList=k+if decide (x∉d2.toList)=true then 1 else 0:=by unfold othN;rw [countP_take (by simp;omega),hxl,hk];rfl
  obtain ⟨hb,hhb⟩:∃ b:Bool,b=(decide (x∈d2.toList)):=⟨_,rfl⟩
  refine X.goP ([(15,.ext b oi 0),(16,.int .u8 (.v x)),(17,.bool (.v hb))]) T31_ok 400 _ rfl Tryz.results31 (fun pr fin hpr hfin=>?_)
  conv=>cbv
  refine ⟨hpr _ (.of Tryz.call59 [.slice p2 n2 c2,.int .u8 x] (.bool hb) (fun _=>rfl) (fun _=>rfl) fun _ w1 him=>by rw [hhb];exact has10_ok p2 n2 c2 d2 x w1 hle2 ⟨hA2.1,fun h0=>by obtain ⟨b',y',h1,h2⟩:=hA2.2 h0;exact ⟨b',y',h1,fun j hj=>him _ _ _ (by show elsewhere [] [] w b' (y'+j)=_;rw [els_old];exact h2 j hj)⟩⟩),hpr _ (ValOk.im1 rfl Tryz.isAgg5 (fun _=>rfl) fun _=>hix),hpr _ (ValOk.at (z:=i) rfl rfl (fun _=>rfl) Tryz.underlying23 Tryz.sizeOf5 (fun _=>hlt) hp (by omega)),hfin _ _ ?_⟩
  refine X.cond rfl (fun hT=>?_) (fun hF=>?_)
  ·simp only [SB.T,SB.F] at hT
   rw [if_pos (by rw [hhb] at hT;simpa using hT)] at hst
   refine X.go T31_ok 400 _ rfl Tryz.results31 ?_
   conv=>arg 2;cbv
   refine X.back (fun N ac w' hN hf hS=>hq ⟨i+1,hlt⟩ ac w' (by simp only;omega) ?_)
   show At (mkE Tryz.prog Tryz.f31 Q w (InR [] []) (elsewhere [] [] w) (fun _ _=>False) (fun _=>True) [] B31) ⟨[(0,.val (.slv p n c)),(1,.val (.slv p2 n2 c2)),(5,.val (.int .i64 (.nat (othN (d.toList.take (i+1)) d2.toList)))),(8,.val (.int .i64 (.nat n))),(9,.val (.int .i64 (.nat (i+1))))],[]⟩ ac w'
   rw [hst]
   exact At.again hf hS (by repeat first | exact trivial | refine ⟨⟨_,rfl,.inl ⟨rfl,rfl⟩⟩,?_⟩ | refine ⟨⟨_,rfl,.inr ⟨_,rfl,rfl⟩⟩,?_⟩ | refine ⟨⟨_,rfl,.inr ⟨_,rfl,by simp (disch:=omega) [SV.den,SI.den,wrapU,wrapD]<;>omega⟩⟩,?_⟩) trivial
  ·simp only [SB.T,SB.F] at hF
   rw [if_neg (by rw [hhb] at hF;simpa using hF),Nat.add_zero] at hst
   refine X.go T31_ok 400 _ rfl Tryz.results31 ?_
   conv=>arg 2;cbv
   refine X.back (fun N ac w' hN hf hS=>hq ⟨i+1,hlt⟩ ac w' (by simp only;omega) ?_)
   show At (mkE Tryz.prog Tryz.f31 Q w (InR [] []) (elsewhere [] [] w) (fun _ _=>False) (fun _=>True) [] B31) ⟨[(0,.val (.slv p n c)),(1,.val (.slv p2 n2 c2)),(5,.val (.int .i64 (.nat (othN (d.toList.take (i+1)) d2.toList)))),(8,.val (.int .i64 (.nat n))),(9,.val (.int .i64 (.nat (i+1))))],[]⟩ ac w'
   rw [hst]
   exact At.again hf hS (by repeat first | exact trivial | refine ⟨⟨_,rfl,.inl ⟨rfl,rfl⟩⟩,?_⟩ | refine ⟨⟨_,rfl,.inr ⟨_,rfl,rfl⟩⟩,?_⟩ | refine ⟨⟨_,rfl,.inr ⟨_,rfl,by simp (disch:=omega) [SV.den,SI.den,wrapU,wrapD]<;>omega⟩⟩,?_⟩) trivial
 ·simp only [SB.F,SI.den] at hge
  have hall:d.toList.take i=d.toList:=List.take_of_length_le (by simp;omega)
  refine X.go T31_ok 400 _ rfl Tryz.results31 ?_
  conv=>arg 2;cbv
  refine X.done T31_ok rfl (fun N w' v hN hS hv=>?_)
  rw [hQ]
  exact ⟨fin_int hv (by rw [hall] at hk;rw [←hk];rfl),hS.chg.none⟩
theorem pop_count:∀ (n x:Nat),popN n x=(List.range n).countP fun i=>x.testBit i
 | 0,_=>rfl
 | n+1,x=>by
  rw [popN,pop_count n (x / 2),List.range_succ_eq_map,List.countP_cons,List.countP_map]
  have e:((fun i=>x.testBit i) ∘ Nat.succ)=fun i=>(x / 2).testBit i:=by
   funext i
   exact Nat.testBit_succ x i
  rw [e]
  congr 1
  rw [Nat.testBit_zero]
  by_cases h:x % 2=1
  ·simp [h]
  ·have:x % 2=0:=by omega
   simp [this]
theorem setN_bit {i:Nat} (hi:i<64):∀ (l:List Int) (s:Nat),(∀ x∈l,0≤x)→(l.foldl setS s).testBit i=(s.testBit i || decide ((i:Int)∈l))
 | [],s,_=>by simp
 | x::l,s,h=>by
  rw [List.foldl_cons,setN_bit hi l _ fun y hy=>h y (List.mem_cons_of_mem _ hy)]
  have hx:=h x (by simp)
  have e:(setS s x).testBit i=(s.testBit i || decide ((i:Int)=x)):=by
   unfold setS
   split
   ·rw [Nat.testBit_or,Nat.testBit_two_pow]
    congr 1
    exact decide_eq_decide.2 (by omega)
   ·have:¬(i:Int)=x:=by omega
    simp [this]
  rw [e,Bool.or_assoc]
  congr 1
  rw [Bool.eq_iff_iff]
  simp
theorem countP_range {l:List Int} (hnd:l.Nodup) (hl:∀ x∈l,0≤x∧x<64) (P:Nat→Bool):(l.countP fun x=>P x.toNat)=(List.range 64).countP fun i:Nat=>decide ((i:Int)∈l)&&P i:=by
 have hp:(((List.range 64).filter fun i:Nat=>decide ((i:Int)∈l)).map fun i:Nat=>(i:Int)).Perm l:=by
  refine (List.perm_ext_iff_of_nodup ?_ hnd).2 fun y=>?_
  ·refine List.Pairwise.imp (R:=(·<·)) (fun h=>by omega) (List.pairwise_map.2 (List.Pairwise.filter _ ?_))
   exact List.pairwise_lt_range.imp fun h=>by omega
  ·simp only [List.mem_map,List.mem_filter,List.mem_range,decide_eq_true_eq]
   constructor
   ·rintro ⟨a,⟨_,h⟩,rfl⟩
    exact h
   ·intro h
    have:=hl y h
    exact ⟨y.toNat,⟨by omega,by rw [Int.toNat_of_nonneg this.1];exact h⟩,Int.toNat_of_nonneg this.1⟩
 rw [←hp.countP_eq,List.countP_map,List.countP_filter]
 refine List.countP_congr fun i _=>?_
 simp [And.comm]
theorem pop_and {l:List Int} (hnd:l.Nodup) (hl:∀ x∈l,0≤x∧x<64) (s:Nat):popN 64 (setN l &&& s)=cntN l s:=by
 unfold cntN
 rw [pop_count,countP_range hnd hl fun i=>s.testBit i]
 refine List.countP_congr fun i hi=>?_
 rw [Nat.testBit_and,setN,setN_bit (List.mem_range.1 hi) l 0 fun x hx=>(hl x hx).1]
 simp
theorem countP_xor {α:Type} (p q:α→Bool):∀ l:List α,(l.countP fun a=>p a ^^ q a)=(l.countP fun a=>p a&&!q a)+l.countP fun a=>q a&&!p a
 | []=>rfl
 | a::l=>by
  rw [List.countP_cons,List.countP_cons,List.countP_cons,countP_xor p q l]
  cases p a<;>cases q a<;>simp<;>omega
theorem oth_range {o n:List Int} (ho:o.Nodup) (ho2:∀ x∈o,0≤x∧x<64):othN o n=(List.range 64).countP fun i:Nat=>decide ((i:Int)∈o)&&!decide ((i:Int)∈n):=by
 have e:othN o n=o.countP fun x=>(fun i:Nat=>!decide ((i:Int)∈n)) x.toNat:=by
  unfold othN
  refine List.countP_congr fun x hx=>?_
  simp only [Int.toNat_of_nonneg (ho2 x hx).1]
  simp
 rw [e,countP_range ho ho2 fun i:Nat=>!decide ((i:Int)∈n)]
theorem pop_xor {o n:List Int} (ho:o.Nodup) (ho2:∀ x∈o,0≤x∧x<64) (hn:n.Nodup) (hn2:∀ x∈n,0≤x∧x<64):popN 64 (setN o ^^^ setN n)=othN o n+othN n o:=by
 rw [oth_range ho ho2,oth_range hn hn2,←countP_xor,pop_count]
 refine List.countP_congr fun i hi=>?_
 rw [Nat.testBit_xor,setN,setN,setN_bit (List.mem_range.1 hi) o 0 fun x hx=>(ho2 x hx).1,setN_bit (List.mem_range.1 hi) n 0 fun x hx=>(hn2 x hx).1]
 simp
theorem mayP_lt {d:Array Int} (h:mayP d d.size):d.toList.Pairwise (·<·):=by
 have key:∀ j,j<d.size→∀ i,i<j→d[i]! < d[j]! := fun j=>by
  induction j with
  | zero=>intro _ i hi;omega
  | succ j ih =>
   intro hj i hi
   have h1:=(h (j+1) hj).2 (by omega)
   simp only [Nat.add_sub_cancel] at h1
   rcases Nat.lt_or_ge i j with h2 | h2
   ·have:=ih (by omega) i h2
    omega
   ·have:i=j:=by omega
    subst this
    exact h1
 refine List.pairwise_iff_getElem.2 fun i j hi hj hij=>?_
 have:=key j (by simpa using hj) i hij
 rw [getElem!_pos d i (by simpa using hi),getElem!_pos d j (by simpa using hj)] at this
 simpa using this
theorem mayP_64 {d:Array Int} (h:mayP d d.size) (hb:∀ x∈d.toList,0≤x∧x<256):∀ x∈d.toList,0≤x∧x<64:=fun x hx=>by
 obtain ⟨i,hi,rfl⟩:=List.getElem_of_mem hx
 have hi:i<d.size:=by simpa using hi
 have:=(h i hi).1
 rw [getElem!_pos d i hi] at this
 exact ⟨(hb _ hx).1,by simpa using this⟩
def mayC (C:Nat) (o n:Array Int):Prop:=0<n.size∧mayP n n.size∧if C % 2=1 then 0<o.size∧mayP o o.size∧othN o.toList n.toList+othN n.toList o.toList=1 else o.size=0
theorem InB.im {p:Option Addr} {n:Nat} {d:Array Int} {w w1:World} (h:InB p n d w) (him:∀ k o v,elsewhere [] [] w k o=some v→w1.cell? ⟨k,o,none⟩=some v):InB p n d w1:=⟨h.1,fun h0=>by
 obtain ⟨b,y,h1,h2⟩:=h.2 h0
 exact ⟨b,y,h1,fun j hj=>him _ _ _ (by rw [els_old];exact h2 j hj)⟩⟩
theorem between_ok (C:Nat) (a b:Value) (ha:one? a=true) (hb:one? b=true) (w:World):Calls Tryz.prog 61 #[.agg #[.int .u64 C,a,b]] w fun e w'=>e=.returned (.bool (decide (C % 2=1)))∧Chg (fun _ _=>False) w w':=by
 refine X.begin (rg:=[]) (N:=[]) (ss:=[.agg [.int .u64 (.nat C),.raw a,.raw b]]) Tryz.func61 rfl B61_ok rfl (by simp [SV.denL,SV.den,ha,hb,SI.den]) Sat.std0 ?_
 refine X.go T61_ok 400 _ rfl Tryz.results61 ?_
 conv=>arg 2;cbv
 refine X.done T61_ok rfl (fun N w' v hN hS hv=>⟨fin_bool hv ?_,hS.chg.none⟩)
 refine den_of ?_
 simp only [SB.T,SI.den,decide_eq_true_eq]
 rw [Int.tmod_eq_emod_of_nonneg (by omega)]
 omega
theorem cmay_ok (C:Nat) (po pn:Option Addr) (no nn co cn:Nat) (o n:Array Int) (w:World) (hno:no≤100000) (hnn:nn≤100000) (ho:InB po no o w) (hn:InB pn nn n w) (hbo:∀ x∈o.toList,0≤x∧x<256) (hbn:∀ x∈n.toList,0≤x∧x<256) :
  Calls Tryz.prog 32 #[.agg #[.int .u64 C,.slice po no co,.slice pn nn cn]] w fun e w'=>e=.returned (.bool (B (mayC C o n)))∧Chg (fun _ _=>False) w w':=by
 have hos:=ho.1
 have hns:=hn.1
 obtain ⟨Q,hQ⟩:∃ Q:Ending→World→Prop,Q=fun e w'=>e=.returned (.bool (B (mayC C o n)))∧Chg (fun _ _=>False) w w':=⟨_,rfl⟩
 rw [←hQ]
 refine X.begin (rg:=[]) (N:=[]) (ss:=[.agg [.int .u64 (.nat C),.slv po no co,.slv pn nn cn]]) Tryz.func32 rfl B32_ok rfl rfl Sat.std0 ?_
 obtain ⟨m1,hm1⟩:∃ b,b=B (mayP n nn):=⟨_,rfl⟩
 obtain ⟨m2,hm2⟩:∃ b,b=B (mayP o no):=⟨_,rfl⟩
 obtain ⟨bt,hbt⟩:∃ b,b=decide (C % 2=1):=⟨_,rfl⟩
 refine X.goP ([(5,.bool (.v m1))]) T32_ok 400 _ rfl Tryz.results32 (fun pr fin hpr hfin=>?_)
 conv=>cbv
 refine ⟨hpr _ (.of Tryz.call60 [.slice pn nn cn] (.bool m1) (fun _=>rfl) (fun _=>rfl) fun _ w1 him=>by rw [hm1];exact may_ok pn nn cn n w1 hnn (hn.im him)),hfin _ _ ?_⟩
 refine X.cond rfl (fun hT=>?_) (fun hF=>?_)
 ·simp only [SB.T,SB.F,SI.den] at hT
  have hno':¬mayC C o n:=fun ⟨h1,h2,_⟩=>by
   rcases hT with h | h
   ·rw [hm1,←hns,B_pos h2] at h;cases h
   ·omega
  refine X.go T32_ok 400 _ rfl Tryz.results32 ?_
  conv=>arg 2;cbv
  refine X.done T32_ok rfl (fun N w' v hN hS hv=>?_)
  rw [hQ]
  exact ⟨fin_bool hv (by rw [B_neg hno'];rfl),hS.chg.none⟩
 ·simp only [SB.T,SB.F,SI.den] at hF
  have hmn:mayP n n.size:=by rw [hns];exact B_iff.1 (by rw [←hm1];exact hF.1)
  have h0n:0<n.size:=by omega
  refine X.goP ([(14,.bool (.v bt))]) T32_ok 400 _ rfl Tryz.results32 (fun pr fin hpr hfin=>?_)
  conv=>cbv
  refine ⟨hpr _ (.of Tryz.call61 [.agg #[.int .u64 C,.slice po no co,.slice pn nn cn]] (.bool bt) (fun _=>rfl) (fun _=>rfl) fun _ w1 him=>by rw [hbt];exact between_ok C _ _ rfl rfl w1),hfin _ _ ?_⟩
  refine X.cond rfl (fun hT=>?_) (fun hF=>?_)
  ·simp only [SB.T,SB.F] at hT
   have hc:¬C % 2=1:=by rw [hbt] at hT;exact of_decide_eq_false hT
   refine X.go T32_ok 400 _ rfl Tryz.results32 ?_
   conv=>arg 2;cbv
   refine X.done T32_ok rfl (fun N w' v hN hS hv=>?_)
   rw [hQ]
   refine ⟨fin_bool hv (den_of ?_),hS.chg.none⟩
   rw [B_iff]
   unfold mayC
   rw [if_neg hc]
   simp only [SB.T,SI.den]
   exact ⟨fun h=>⟨h0n,hmn,by omega⟩,fun h=>by omega⟩
  ·simp only [SB.T,SB.F] at hF
   have hc:C % 2=1:=by rw [hbt] at hF;exact of_decide_eq_true hF
   obtain ⟨so,hso⟩:∃ s,s=setN o.toList:=⟨_,rfl⟩
   obtain ⟨sn,hsn⟩:∃ s,s=setN n.toList:=⟨_,rfl⟩
   have hso8:so<2 ^ 64:=by rw [hso];exact setN_lt _ 0 (by decide)
   have hsn8:sn<2 ^ 64:=by rw [hsn];exact setN_lt _ 0 (by decide)
   have hxor:=bits_xor so sn hso8 hsn8
   obtain ⟨pk,hpk⟩:∃ p,p=popN 64 (so ^^^ sn):=⟨_,rfl⟩
   refine X.goP ([(22,.bool (.v m2)),(32,.int .u64 (.nat so)),(35,.int .u64 (.nat sn)),(37,.int .i64 (.nat pk))]) T32_ok 400 _ rfl Tryz.results32 (fun pr fin hpr hfin=>?_)
   conv=>cbv
   refine ⟨hpr _ (.of Tryz.call62 [.int .u64 ((so ^^^ sn:Nat):Int)] (.int .i64 pk) (fun _=>by simp only [SV.denL,SV.den,SI.den,hxor]) (fun _=>rfl) fun _ w1 _=>by rw [hpk];exact ones_ok _ w1 (Nat.xor_lt_two_pow hso8 hsn8)),
    hpr _ (.of Tryz.call63 [.slice pn nn cn] (.int .u64 sn) (fun _=>rfl) (fun _=>rfl) fun _ w1 him=>by rw [hsn];exact set_ok pn nn cn n w1 hnn (hn.im him) hbn),
    hpr _ (.of Tryz.call63 [.slice po no co] (.int .u64 so) (fun _=>rfl) (fun _=>rfl) fun _ w1 him=>by rw [hso];exact set_ok po no co o w1 hno (ho.im him) hbo),
    hpr _ (.of Tryz.call60 [.slice po no co] (.bool m2) (fun _=>rfl) (fun _=>rfl) fun _ w1 him=>by rw [hm2];exact may_ok po no co o w1 hno (ho.im him)),hfin _ _ ?_⟩
   refine X.done T32_ok rfl (fun N w' v hN hS hv=>?_)
   rw [hQ]
   refine ⟨fin_bool hv (den_of ?_),hS.chg.none⟩
   rw [B_iff]
   unfold mayC
   rw [if_pos hc]
   simp only [SB.T,SI.den]
   have hb2:m2=true↔mayP o o.size:=by rw [hm2,B_iff,hos]
   constructor
   ·rintro ⟨⟨h1,h2⟩,h3⟩
    have hmo:=hb2.1 h1
    refine ⟨h0n,hmn,by omega,hmo,?_⟩
    rw [←pop_xor ((mayP_lt hmo).imp fun h=>by omega) (mayP_64 hmo hbo) ((mayP_lt hmn).imp fun h=>by omega) (mayP_64 hmn hbn),←hso,←hsn,←hpk]
    omega
   ·rintro ⟨_,_,h1,hmo,h3⟩
    refine ⟨⟨hb2.2 hmo,by omega⟩,?_⟩
    rw [←pop_xor ((mayP_lt hmo).imp fun h=>by omega) (mayP_64 hmo hbo) ((mayP_lt hmn).imp fun h=>by omega) (mayP_64 hmn hbn),←hso,←hsn,←hpk] at h3
    omega
theorem cmay10_ok (C:Nat) (po pn:Option Addr) (no nn co cn:Nat) (o n:Array Int) (w:World) (hno:no≤100000) (hnn:nn≤100000) (ho:InB po no o w) (hn:InB pn nn n w) :
  Calls Tryz.prog 7 #[.agg #[.int .u64 C,.slice po no co,.slice pn nn cn]] w fun e w'=>e=.returned (.bool (B (mayC C o n)))∧Chg (fun _ _=>False) w w':=by
 have hos:=ho.1
 have hns:=hn.1
 obtain ⟨Q,hQ⟩:∃ Q:Ending→World→Prop,Q=fun e w'=>e=.returned (.bool (B (mayC C o n)))∧Chg (fun _ _=>False) w w':=⟨_,rfl⟩
 rw [←hQ]
 refine X.begin (rg:=[]) (N:=[]) (ss:=[.agg [.int .u64 (.nat C),.slv po no co,.slv pn nn cn]]) Tryz.func7 rfl B7_ok rfl rfl Sat.std0 ?_
 obtain ⟨m1,hm1⟩:∃ b,b=B (mayP n nn):=⟨_,rfl⟩
 obtain ⟨m2,hm2⟩:∃ b,b=B (mayP o no):=⟨_,rfl⟩
 refine X.goP ([(10,.bool (.v m1))]) T7_ok 400 _ rfl Tryz.results7 (fun pr fin hpr hfin=>?_)
 conv=>cbv
 refine ⟨hpr _ (.of Tryz.call30 [.slice pn nn cn] (.bool m1) (fun _=>rfl) (fun _=>rfl) fun _ w1 him=>by rw [hm1];exact may9_ok pn nn cn n w1 hnn (hn.im him)),hfin _ _ ?_⟩
 refine X.cond rfl (fun hT=>?_) (fun hF=>?_)
 ·simp only [SB.T,SB.F,SI.den] at hT
  have hno':¬mayC C o n:=fun ⟨h1,h2,_⟩=>by
   rcases hT with h | h
   ·omega
   ·rw [hm1,←hns,B_pos h2] at h;cases h
  refine X.go T7_ok 400 _ rfl Tryz.results7 ?_
  conv=>arg 2;cbv
  refine X.done T7_ok rfl (fun N w' v hN hS hv=>?_)
  rw [hQ]
  exact ⟨fin_bool hv (by rw [B_neg hno'];rfl),hS.chg.none⟩
 ·simp only [SB.T,SB.F,SI.den] at hF
  have hmn:mayP n n.size:=by rw [hns];exact B_iff.1 (by rw [←hm1];exact hF.2)
  have h0n:0<n.size:=by omega
  refine X.go T7_ok 400 _ rfl Tryz.results7 ?_
  conv=>arg 2;cbv
  refine X.cond rfl (fun hT=>?_) (fun hF=>?_)
  ·simp only [SB.T,SB.F,SI.den] at hT
   have hc:¬C % 2=1:=by rw [Int.tmod_eq_emod_of_nonneg (by omega)] at hT;omega
   refine X.go T7_ok 400 _ rfl Tryz.results7 ?_
   conv=>arg 2;cbv
   refine X.done T7_ok rfl (fun N w' v hN hS hv=>?_)
   rw [hQ]
   refine ⟨fin_bool hv (den_of ?_),hS.chg.none⟩
   rw [B_iff]
   unfold mayC
   rw [if_neg hc]
   simp only [SB.T,SI.den]
   exact ⟨fun h=>⟨h0n,hmn,by omega⟩,fun h=>by omega⟩
  ·simp only [SB.T,SB.F,SI.den] at hF
   have hc:C % 2=1:=by rw [Int.tmod_eq_emod_of_nonneg (by omega)] at hF;omega
   obtain ⟨k1,hk1⟩:∃ k,k=othN o.toList n.toList:=⟨_,rfl⟩
   obtain ⟨k2,hk2⟩:∃ k,k=othN n.toList o.toList:=⟨_,rfl⟩
   have hk18:k1≤100000:=by rw [hk1];exact Nat.le_trans List.countP_le_length (by simp;omega)
   have hk28:k2≤100000:=by rw [hk2];exact Nat.le_trans List.countP_le_length (by simp;omega)
   refine X.goP ([(28,.bool (.v m2)),(35,.int .i64 (.nat k1)),(40,.int .i64 (.nat k2))]) T7_ok 400 _ rfl Tryz.results7 (fun pr fin hpr hfin=>?_)
   conv=>cbv
   refine ⟨hpr _ (.of Tryz.call31 [.slice pn nn cn,.slice po no co] (.int .i64 k2) (fun _=>rfl) (fun _=>rfl) fun _ w1 him=>by rw [hk2];exact others_ok pn po nn cn no co n o w1 hnn hno (hn.im him) (ho.im him)),
    hpr _ (.of Tryz.call31 [.slice po no co,.slice pn nn cn] (.int .i64 k1) (fun _=>rfl) (fun _=>rfl) fun _ w1 him=>by rw [hk1];exact others_ok po pn no co nn cn o n w1 hno hnn (ho.im him) (hn.im him)),
    hpr _ (.of Tryz.call30 [.slice po no co] (.bool m2) (fun _=>rfl) (fun _=>rfl) fun _ w1 him=>by rw [hm2];exact may9_ok po no co o w1 hno (ho.im him)),hfin _ _ ?_⟩
   refine X.done T7_ok rfl (fun N w' v hN hS hv=>?_)
   rw [hQ]
   refine ⟨fin_bool hv (den_of ?_),hS.chg.none⟩
   rw [B_iff]
   unfold mayC
   rw [if_pos hc,←hk1,←hk2]
   simp only [SB.T,SI.den,wrapN ((k1:Int)+(k2:Int)) (by omega) (by omega)]
   have hb2:m2=true↔mayP o o.size:=by rw [hm2,B_iff,hos]
   constructor
   ·rintro ⟨⟨h1,h2⟩,h3⟩
    exact ⟨h0n,hmn,by omega,hb2.1 h2,by omega⟩
   ·rintro ⟨_,_,h1,hmo,h3⟩
    exact ⟨⟨by omega,hb2.2 hmo⟩,by omega⟩
def BytNew (l:List Int) (s0:Nat) (M:Mem) (p:Option Addr) (c:Nat):Prop:=l.length≤c∧(l=[]∧p=none∧c=0∨l≠[]∧∃ b y,p=some ⟨b,y,none⟩∧s0≤b∧∀ j,j<l.length→M b (y+j)=some (.int .u8 l[j]!))
theorem BytNew.mono {l:List Int} {s0 s1:Nat} {M M':Mem} {p:Option Addr} {c:Nat} (h:BytNew l s0 M p c) (hs:s1≤s0) (hM:∀ k o v,s0≤k→M k o=some v→M' k o=some v):BytNew l s1 M' p c:=⟨h.1,h.2.imp id fun ⟨hne,b,y,h1,h2,h3⟩=>⟨hne,b,y,h1,Nat.le_trans hs h2,fun j hj=>hM _ _ _ h2 (h3 j hj)⟩⟩
theorem BytRet.new {l:List Int} {w w':World} {e:Ending} (h:BytRet l w e w'):∃ p c,e=.returned (.slice p l.length c)∧BytNew l w.heap.size (wm w') p c∧Chg (fun _ _=>False) w w':=by
 obtain ⟨p,c,he,hc,hr,hch⟩:=h
 refine ⟨p,c,he,⟨hc,?_⟩,hch⟩
 rcases hr with h | ⟨hne,b,o,h1,h2,h3⟩
 ·exact .inl h
 ·refine .inr ⟨hne,b,o,h1,h2,fun j hj=>?_⟩
  have:=(h3 j (by simpa using hj)).1
  simpa [wm,hj] using this
theorem BytNew.inB {l:List Int} {s0:Nat} {M:Mem} {p:Option Addr} {c:Nat} (h:BytNew l s0 M p c) {w:World} (hM:∀ k o v,M k o=some v→w.cell? ⟨k,o,none⟩=some v):InB p l.length l.toArray w:=⟨by simp,fun h0=>by
 rcases h.2 with ⟨h1,_⟩ | ⟨_,b,y,h1,_,h3⟩
 ·rw [h1] at h0;simp at h0
 ·exact ⟨b,y,h1,fun j hj=>by
   have hj:j<l.length:=by simpa using hj
   have:=hM _ _ _ (h3 j hj)
   simpa [hj] using this⟩⟩
def ringsL (C:Nat) (o n:Array Int) (key:Int):List (List Int):=if C % 2=1 then [ofL n key,ofL o key] else [ofL n key]
def RingsRet (ls:List (List Int)) (w:World) (e:Ending) (w':World):Prop :=
 ∃ b o c,e=.returned (.slice (some ⟨b,o,none⟩) ls.length c)∧w.heap.size≤b∧(∀ j,j<ls.length→∃ p c,wm w' b (o+j)=some (.slice p ls[j]!.length c)∧BytNew ls[j]! w.heap.size (wm w') p c)∧Chg (fun _ _=>False) w w'
theorem rings_ok (C:Nat) (po pn:Option Addr) (no nn co cn:Nat) (o n:Array Int) (key:Int) (w:World) (hno:no≤1000) (hnn:nn≤1000) (ho:InB po no o w) (hn:InB pn nn n w) (hbo:∀ x∈o.toList,0≤x∧x<256) (hbn:∀ x∈n.toList,0≤x∧x<256) :
  Calls Tryz.prog 68 #[.agg #[.int .u64 C,.slice po no co,.slice pn nn cn],.int .u8 key] w (RingsRet (ringsL C o n key) w):=by
 obtain ⟨Q,hQ⟩:∃ Q:Ending→World→Prop,Q=RingsRet (ringsL C o n key) w:=⟨_,rfl⟩
 rw [←hQ]
 refine X.begin (rg:=[]) (N:=[]) (ss:=[.agg [.int .u64 (.nat C),.slv po no co,.slv pn nn cn],.int .u8 (.v key)]) Tryz.func68 rfl B68_ok rfl rfl Sat.std0 ?_
 obtain ⟨bt,hbt⟩:∃ b,b=decide (C % 2=1):=⟨_,rfl⟩
 refine X.go T68_ok 400 _ rfl Tryz.results68 ?_
 conv=>arg 2;cbv
 refine X.call rfl rfl rfl rfl Tryz.call100 (fun N w1 args hN hS ha=>?_)
 have ha:args=[.slice pn nn cn,.int .u8 key]:=(Option.some.inj ha).symm
 rw [ha]
 refine (of_ok pn nn cn n key w1 hnn (hn.stays hS.chg.none) hbn).mono fun e w2 hr=>?_
 obtain ⟨p1,c1,he,hb1,hch⟩:=hr.new
 obtain ⟨l1,hl1⟩:∃ l,l=ofL n key:=⟨_,rfl⟩
 obtain ⟨q1,hq1⟩:∃ q,q=l1.length:=⟨_,rfl⟩
 rw [←hl1] at hb1 he
 rw [←hq1] at he
 refine ⟨_,he,Goes.newMem hN hS hch (r:=.slv p1 q1 c1) rfl rfl (fun hold hnew=>?_)⟩
 obtain ⟨im,him⟩:∃ im,im=imNew (elsewhere [] [] w) w1 w2:=⟨_,rfl⟩
 have hb1:BytNew l1 w.heap.size im p1 c1:=hb1.mono hS.chg.size fun k o v hk hv=>by rw [him];exact hnew _ _ _ hk hv
 have hoM:∀ w':World,(∀ k o v,im k o=some v→w'.cell? ⟨k,o,none⟩=some v)→InB po no o w':=fun w' h=>ho.im fun k o v hv=>h _ _ _ (by rw [him];exact hold _ _ _ hv)
 show X (mkE Tryz.prog Tryz.f68 Q w (InR [] []) (imNew (elsewhere [] [] w) w1 w2) (fun _ _=>False) (fun _=>True) [] B68) _ _
 rw [←him]
 clear him hold hnew hr hch he ha hS hN
 refine X.goP ([(12,.bool (.v bt))]) T68_ok 400 _ rfl Tryz.results68 (fun pr fin hpr hfin=>?_)
 conv=>cbv
 refine ⟨hpr _ (.of Tryz.call61 [.agg #[.int .u64 C,.slice po no co,.slice pn nn cn]] (.bool bt) (fun _=>rfl) (fun _=>rfl) fun _ w1 _=>by rw [hbt];exact between_ok C _ _ rfl rfl w1),hfin _ _ ?_⟩
 refine X.cond rfl (fun hT=>?_) (fun hF=>?_)
 ·simp only [SB.T] at hT
  have hc:C % 2=1:=by rw [hbt] at hT;exact of_decide_eq_true hT
  have hrl:ringsL C o n key=[l1,ofL o key]:=by rw [ringsL,if_pos hc,hl1]
  refine X.go T68_ok 400 _ rfl Tryz.results68 ?_
  conv=>arg 2;cbv
  refine X.call rfl rfl rfl rfl Tryz.call100 (fun N w3 args hN hS ha=>?_)
  have ha:args=[.slice po no co,.int .u8 key]:=(Option.some.inj ha).symm
  rw [ha]
  refine (of_ok po no co o key w3 hno (hoM w3 hS.imm) hbo).mono fun e w4 hr=>?_
  obtain ⟨p2,c2,he,hb2,hch⟩:=hr.new
  obtain ⟨l2,hl2⟩:∃ l,l=ofL o key:=⟨_,rfl⟩
  obtain ⟨q2,hq2⟩:∃ q,q=l2.length:=⟨_,rfl⟩
  rw [←hl2] at hb2 he
  rw [←hq2] at he
  refine ⟨_,he,Goes.newMem hN hS hch (r:=.slv p2 q2 c2) rfl rfl (fun hold hnew=>?_)⟩
  obtain ⟨im2,him2⟩:∃ im2,im2=imNew im w3 w4:=⟨_,rfl⟩
  have hb2:BytNew l2 w.heap.size im2 p2 c2:=hb2.mono hS.chg.size fun k o v hk hv=>by rw [him2];exact hnew _ _ _ hk hv
  have hb1:BytNew l1 w.heap.size im2 p1 c1:=hb1.mono (Nat.le_refl _) fun k o v hk hv=>by rw [him2];exact hold _ _ _ hv
  show X (mkE Tryz.prog Tryz.f68 Q w (InR [] []) (imNew im w3 w4) (fun _ _=>False) (fun _=>True) [] B68) _ _
  rw [←him2]
  clear him2 hold hnew hr hch he ha hS hN
  refine X.go T68_ok 400 _ rfl Tryz.results68 ?_
  conv=>arg 2;cbv
  refine X.done T68_ok rfl (fun N w' v hN hS hv=>?_)
  rw [hQ,hrl,←hl2]
  obtain ⟨p,hp⟩:=num_of hS (r:=3) rfl
  simp only [resV,SV.den,hp,Option.some.injEq] at hv
  have hx:=hS.ext 3 _ p rfl hp rfl
  simp only [List.length_cons,List.length_nil] at hx
  refine ⟨p.b,p.o,_,by rw [←hv,Nat.add_zero];rfl,?_,fun j hj=>?_,hS.chg.none⟩
  ·rcases hS.foot 3 _ p rfl hp rfl with h | h
   ·exact h
   ·exact absurd (h 0 (by omega)) (fun h=>inR_nil h)
  ·match j,hj with
   | 0,_ =>
    obtain ⟨v,e1,e2⟩:=hS.cell 3 _ p rfl hp 0 _ rfl
    simp only [SV.den,Option.some.injEq] at e1
    exact ⟨p1,c1,by rw [wm,e2,←e1,hq1];rfl,hb1.mono (Nat.le_refl _) fun k o v _ hv=>hS.imm _ _ _ hv⟩
   | 1,_ =>
    obtain ⟨v,e1,e2⟩:=hS.cell 3 _ p rfl hp 1 _ rfl
    simp only [SV.den,Option.some.injEq] at e1
    exact ⟨p2,c2,by rw [wm,e2,←e1,hq2];rfl,hb2.mono (Nat.le_refl _) fun k o v _ hv=>hS.imm _ _ _ hv⟩
 ·simp only [SB.F] at hF
  have hc:¬C % 2=1:=by rw [hbt] at hF;exact of_decide_eq_false hF
  have hrl:ringsL C o n key=[l1]:=by rw [ringsL,if_neg hc,hl1]
  refine X.go T68_ok 400 _ rfl Tryz.results68 ?_
  conv=>arg 2;cbv
  refine X.done T68_ok rfl (fun N w' v hN hS hv=>?_)
  rw [hQ,hrl]
  obtain ⟨p,hp⟩:=num_of hS (r:=1) rfl
  simp only [resV,SV.den,hp,Option.some.injEq] at hv
  have hx:=hS.ext 1 _ p rfl hp rfl
  simp only [List.length_cons,List.length_nil] at hx
  refine ⟨p.b,p.o,_,by rw [←hv,Nat.add_zero];rfl,?_,fun j hj=>?_,hS.chg.none⟩
  ·rcases hS.foot 1 _ p rfl hp rfl with h | h
   ·exact h
   ·exact absurd (h 0 (by omega)) (fun h=>inR_nil h)
  ·match j,hj with
   | 0,_ =>
    obtain ⟨v,e1,e2⟩:=hS.cell 1 _ p rfl hp 0 _ rfl
    simp only [SV.den,Option.some.injEq] at e1
    exact ⟨p1,c1,by rw [wm,e2,←e1,hq1];rfl,hb1.mono (Nat.le_refl _) fun k o v _ hv=>hS.imm _ _ _ hv⟩
def maj (l:List Int) (s:Nat):Prop:=l.length<2*cntN l s
def quoC (C:Nat) (o n:Array Int) (key:Int) (s:Nat):Prop:=mayC C o n∧maj (ofL n key) s∧(C % 2=1→maj (ofL o key) s)
theorem ofL_sub {d:Array Int} {key x:Int} (h:x∈ofL d key):x∈d.toList:=by
 rw [(ofL_perm d key).mem_iff,keepL_eq (ringP_rise d)] at h
 have:=List.mem_of_mem_take h
 rw [dd_mem] at this
 rcases this with h | h
 ·cases h
 ·exact (nodes_mem d _ x).1 h
theorem quoC_rings {C:Nat} {o n:Array Int} {key:Int} {s:Nat} (h:mayC C o n):quoC C o n key s↔∀ j,j<(ringsL C o n key).length→maj (ringsL C o n key)[j]! s:=by
 unfold quoC ringsL
 by_cases hc:C % 2=1
 ·rw [if_pos hc]
  constructor
  ·rintro ⟨_,h1,h2⟩ j hj
   match j,hj with
   | 0,_=>exact h1
   | 1,_=>exact h2 hc
  ·intro h2
   exact ⟨h,h2 0 (by simp),fun _=>h2 1 (by simp)⟩
 ·rw [if_neg hc]
  constructor
  ·rintro ⟨_,h1,_⟩ j hj
   match j,hj with
   | 0,_=>exact h1
  ·intro h2
   exact ⟨h,h2 0 (by simp),fun e=>absurd e hc⟩
theorem rings_64 {C:Nat} {o n:Array Int} {key:Int} (h:mayC C o n) (hbo:∀ x∈o.toList,0≤x∧x<256) (hbn:∀ x∈n.toList,0≤x∧x<256):∀ j,j<(ringsL C o n key).length→(ringsL C o n key)[j]!.Nodup∧∀ x∈(ringsL C o n key)[j]!,0≤x∧x<64:=by
 obtain ⟨_,hmn,hrest⟩:=h
 have k1:(ofL n key).Nodup∧∀ x∈ofL n key,0≤x∧x<64:=⟨(ofL_lt n key).imp fun h=>by omega,fun x hx=>mayP_64 hmn hbn x (ofL_sub hx)⟩
 unfold ringsL
 by_cases hc:C % 2=1
 ·rw [if_pos hc] at hrest ⊢
  have k2:(ofL o key).Nodup∧∀ x∈ofL o key,0≤x∧x<64:=⟨(ofL_lt o key).imp fun h=>by omega,fun x hx=>mayP_64 hrest.2.1 hbo x (ofL_sub hx)⟩
  intro j hj
  match j,hj with
  | 0,_=>exact k1
  | 1,_=>exact k2
 ·rw [if_neg hc]
  intro j hj
  match j,hj with
  | 0,_=>exact k1
theorem rings_len {C:Nat} {o n:Array Int} {key:Int} (ho:o.size≤100) (hn:n.size≤100):(ringsL C o n key).length≤2∧∀ j,j<(ringsL C o n key).length→(ringsL C o n key)[j]!.length≤1000:=by
 unfold ringsL
 split
 ·refine ⟨by simp,fun j hj=>?_⟩
  match j,hj with
  | 0,_=>exact ofL_len n key hn
  | 1,_=>exact ofL_len o key ho
 ·refine ⟨by simp,fun j hj=>?_⟩
  match j,hj with
  | 0,_=>exact ofL_len n key hn
theorem quorum_ok (C s:Nat) (po pn:Option Addr) (no nn co cn:Nat) (o n:Array Int) (key:Int) (w:World) (hno:no≤100) (hnn:nn≤100) (hs:s<2 ^ 64) (ho:InB po no o w) (hn:InB pn nn n w) (hbo:∀ x∈o.toList,0≤x∧x<256) (hbn:∀ x∈n.toList,0≤x∧x<256) :
  Calls Tryz.prog 40 #[.agg #[.int .u64 C,.slice po no co,.slice pn nn cn],.int .u8 key,.int .u64 s] w fun e w'=>e=.returned (.bool (B (quoC C o n key s)))∧Chg (fun _ _=>False) w w':=by
 have hos:=ho.1
 have hns:=hn.1
 obtain ⟨Q,hQ⟩:∃ Q:Ending→World→Prop,Q=fun e w'=>e=.returned (.bool (B (quoC C o n key s)))∧Chg (fun _ _=>False) w w':=⟨_,rfl⟩
 rw [←hQ]
 refine X.begin (rg:=[]) (N:=[]) (ss:=[.agg [.int .u64 (.nat C),.slv po no co,.slv pn nn cn],.int .u8 (.v key),.int .u64 (.nat s)]) Tryz.func40 rfl B40_ok rfl rfl Sat.std0 ?_
 obtain ⟨m1,hm1⟩:∃ b,b=B (mayC C o n):=⟨_,rfl⟩
 refine X.goP ([(10,.bool (.v m1))]) T40_ok 400 _ rfl Tryz.results40 (fun pr fin hpr hfin=>?_)
 conv=>cbv
 refine ⟨hpr _ (.of Tryz.call32 [.agg #[.int .u64 C,.slice po no co,.slice pn nn cn]] (.bool m1) (fun _=>rfl) (fun _=>rfl) fun _ w1 him=>by rw [hm1];exact cmay_ok C po pn no nn co cn o n w1 (by omega) (by omega) (ho.im him) (hn.im him) hbo hbn),hfin _ _ ?_⟩
 refine X.cond rfl (fun hT=>?_) (fun hF=>?_)
 ·simp only [SB.T,SB.F] at hT
  have hno':¬quoC C o n key s:=fun h=>by rw [hm1,B_pos h.1] at hT;cases hT
  refine X.go T40_ok 400 _ rfl Tryz.results40 ?_
  conv=>arg 2;cbv
  refine X.done T40_ok rfl (fun N w' v hN hS hv=>?_)
  rw [hQ]
  exact ⟨fin_bool hv (by rw [B_neg hno'];rfl),hS.chg.none⟩
 simp only [SB.T,SB.F] at hF
 have hmay:mayC C o n:=B_iff.1 (by rw [←hm1];exact hF)
 refine X.go T40_ok 400 _ rfl Tryz.results40 ?_
 conv=>arg 2;cbv
 refine X.call rfl rfl rfl rfl Tryz.call68 (fun N w1 args hN hS ha=>?_)
 have ha:args=[.agg #[.int .u64 C,.slice po no co,.slice pn nn cn],.int .u8 key]:=(Option.some.inj ha).symm
 rw [ha]
 refine (rings_ok C po pn no nn co cn o n key w1 (by omega) (by omega) (ho.stays hS.chg.none) (hn.stays hS.chg.none) hbo hbn).mono fun e w2 ⟨b,y,c,he,hfr,hcell,hch⟩=>?_
 have hq:=quoC_rings (key:=key) (s:=s) hmay
 have h64:=rings_64 (key:=key) hmay hbo hbn
 obtain ⟨hl2,hl3⟩:=rings_len (C:=C) (key:=key) (show o.size≤100 by omega) (show n.size≤100 by omega)
 obtain ⟨ls,hls⟩:∃ l,l=ringsL C o n key:=⟨_,rfl⟩
 obtain ⟨m,hm⟩:∃ m,m=ls.length:=⟨_,rfl⟩
 rw [←hls] at hq h64 hl2 hl3 he hcell
 rw [←hm] at hq h64 hl2 hl3 he hcell
 refine ⟨_,he,Goes.newMem hN hS hch (r:=.slv (some ⟨b,y,none⟩) m c) rfl rfl (fun hold hnew=>?_)⟩
 obtain ⟨im,him⟩:∃ im,im=imNew (elsewhere [] [] w) w1 w2:=⟨_,rfl⟩
 have hcell:∀ j,j<m→∃ p c,im b (y+j)=some (.slice p ls[j]!.length c)∧BytNew ls[j]! 0 im p c:=fun j hj=>by
  obtain ⟨p,c,h1,h2⟩:=hcell j hj
  exact ⟨p,c,by rw [him];exact hnew _ _ _ hfr h1,h2.mono (Nat.zero_le _) fun k o v hk hv=>by rw [him];exact hnew _ _ _ hk hv⟩
 obtain ⟨pr,hpr0⟩:∃ p,p=some (Addr.mk b y none):=⟨_,rfl⟩
 show X (mkE Tryz.prog Tryz.f40 Q w (InR [] []) (imNew (elsewhere [] [] w) w1 w2) (fun _ _=>False) (fun _=>True) [] B40) _ _
 rw [←him,←hpr0]
 clear him hold hnew hch he ha hS hN
 refine X.go T40_ok 400 _ rfl Tryz.results40 ?_
 conv=>arg 2;cbv
 refine X.loop (fun _:{i:Nat // i≤m∧∀ j,j<i→maj ls[j]! s}=>mkE Tryz.prog Tryz.f40 Q w (InR [] []) im (fun _ _=>False) (fun _=>True) [] B40)
  (fun g=>⟨[(2,.val (.int .u64 (.nat s))),(14,.val (.slv pr m c)),(15,.val (.int .i64 (.nat m))),(16,.val (.int .i64 (.nat g.1)))],[]⟩) (fun g=>m-g.1) (fun _=>⟨rfl,rfl,rfl,rfl⟩) (fun N ac w' hN hf hS=>⟨⟨0,Nat.zero_le _,fun j hj=>absurd hj (Nat.not_lt_zero j)⟩,?_⟩) (fun g q hq2=>?_)
 ·exact At.again hf hS (by repeat first | exact trivial | refine ⟨⟨_,rfl,.inl ⟨rfl,rfl⟩⟩,?_⟩ | refine ⟨⟨_,rfl,.inr ⟨_,rfl,rfl⟩⟩,?_⟩ | refine ⟨⟨_,rfl,.inr ⟨_,rfl,by simp (disch:=omega) [SV.den,SI.den,wrapU,wrapD]<;>omega⟩⟩,?_⟩) trivial
 obtain ⟨i,hi,hmaj⟩:=g
 show X (mkE Tryz.prog Tryz.f40 Q w (InR [] []) im (fun _ _=>False) (fun _=>True) [] B40) _ ⟨[(2,.val (.int .u64 (.nat s))),(14,.val (.slv pr m c)),(15,.val (.int .i64 (.nat m))),(16,.val (.int .i64 (.nat i)))],[]⟩
 refine X.go T40_ok 400 _ rfl Tryz.results40 ?_
 conv=>arg 2;cbv
 refine X.cond rfl (fun hlt=>?_) (fun hge=>?_)
 ·simp only [SB.T,SI.den] at hlt
  have hlt:i<m:=by omega
  obtain ⟨p1,c1,hc1,hb1⟩:=hcell i hlt
  obtain ⟨hnd,hx64⟩:=h64 i hlt
  have hl1000:=hl3 i hlt
  obtain ⟨l,hl⟩:∃ l,l=ls[i]! := ⟨_,rfl⟩
  rw [←hl] at hc1 hb1 hnd hx64 hl1000
  obtain ⟨q1,hq1⟩:∃ q,q=l.length:=⟨_,rfl⟩
  obtain ⟨oi,hoi⟩:∃ o,o=y+i:=⟨_,rfl⟩
  obtain ⟨sl,hsl⟩:∃ t,t=setN l:=⟨_,rfl⟩
  have hsl8:sl<2 ^ 64:=by rw [hsl];exact setN_lt _ 0 (by decide)
  have hand:=bits_and sl s hsl8 hs
  obtain ⟨k,hk⟩:∃ k,k=cntN l s:=⟨_,rfl⟩
  have hk8:k≤1000:=by rw [hk];exact Nat.le_trans List.countP_le_length hl1000
  refine X.goP ([(18,.ext b oi 0),(19,.slv p1 q1 c1),(21,.int .u64 (.nat sl)),(24,.int .i64 (.nat k))]) T40_ok 400 _ rfl Tryz.results40 (fun pr fin hpr hfin=>?_)
  conv=>cbv
  refine ⟨hpr _ (.of Tryz.call62 [.int .u64 ((sl &&& s:Nat):Int)] (.int .i64 k) (fun _=>by simp only [SV.denL,SV.den,SI.den,hand]) (fun _=>rfl) fun _ w1 _=>by rw [hk,←pop_and hnd hx64,←hsl];exact ones_ok _ w1 (Nat.lt_of_le_of_lt Nat.and_le_left hsl8)),
   hpr _ (.of Tryz.call63 [.slice p1 q1 c1] (.int .u64 sl) (fun _=>rfl) (fun _=>rfl) fun _ w1 him=>by rw [hsl,hq1];exact set_ok p1 l.length c1 l.toArray w1 (by omega) (hb1.inB him) (fun x hx=>by have:=hx64 x (by simpa using hx);omega)),
   hpr _ (ValOk.im1 rfl Tryz.isAgg23 (fun _=>rfl) fun _=>by rw [Nat.add_zero,hoi,hq1];exact hc1),hpr _ (ValOk.at (z:=i) rfl rfl (fun _=>rfl) Tryz.underlying139 Tryz.sizeOf23 (fun _=>hlt) hpr0 (by omega)),hfin _ _ ?_⟩
  have hmul:IntKind.i64.wrap (2*(k:Int))=2*(k:Int):=wrapN _ (by omega) (by omega)
  refine X.cond rfl (fun hT=>?_) (fun hF=>?_)
  ·simp only [SB.T,SI.den,hmul] at hT
   have hno':¬quoC C o n key s:=fun h=>by
    have:=hq.1 h i hlt
    rw [←hl,maj,←hk] at this
    omega
   refine X.go T40_ok 400 _ rfl Tryz.results40 ?_
   conv=>arg 2;cbv
   refine X.done T40_ok rfl (fun N w' v hN hS hv=>?_)
   rw [hQ]
   exact ⟨fin_bool hv (by rw [B_neg hno'];rfl),hS.chg.none⟩
  ·simp only [SB.F,SI.den,hmul] at hF
   refine X.go T40_ok 400 _ rfl Tryz.results40 ?_
   conv=>arg 2;cbv
   refine X.back (fun N ac w' hN hf hS=>hq2 ⟨i+1,hlt,fun j hj=>?_⟩ ac w' (by simp only;omega) ?_)
   ·rcases Nat.lt_or_ge j i with h | h
    ·exact hmaj j h
    ·have:j=i:=by omega
     subst this
     rw [←hl,maj,←hk]
     omega
   ·exact At.again hf hS (by repeat first | exact trivial | refine ⟨⟨_,rfl,.inl ⟨rfl,rfl⟩⟩,?_⟩ | refine ⟨⟨_,rfl,.inr ⟨_,rfl,rfl⟩⟩,?_⟩ | refine ⟨⟨_,rfl,.inr ⟨_,rfl,by simp (disch:=omega) [SV.den,SI.den,wrapU,wrapD]<;>omega⟩⟩,?_⟩) trivial
 ·simp only [SB.F,SI.den] at hge
  have hyes:quoC C o n key s:=hq.2 fun j hj=>hmaj j (by omega)
  refine X.go T40_ok 400 _ rfl Tryz.results40 ?_
  conv=>arg 2;cbv
  refine X.done T40_ok rfl (fun N w' v hN hS hv=>?_)
  rw [hQ]
  exact ⟨fin_bool hv (by rw [B_pos hyes];rfl),hS.chg.none⟩
theorem vk_cap_nil {E:Env} {N0:Nums} {rg:List Rg} {f:Fr} {g:GK} {x:Operand} {ts e:Nat} (hx:evK f g x=some (.raw (.slice none 0 0))) (hu:E.P.underlying ts=some (.slice e)):ValOk E N0 rg f g (.call { callee:=.builtin .cap,args:=#[x],argTypes:=#[ts] }) (.int .i64 (.lit 0)):=by
 intro ht N ρ op w hN0 hop hρ hV
 have h1:=hρ _ _ hx
 simp [SV.den,one?] at h1
 refine ⟨.int .i64 0,rfl,fun w' _=>?_⟩
 have h2:(Builtin.cap_ #[ts] op.type #[.slice none 0 0]).run E.P w'=.ok (.int .i64 0) w':=by simp [Builtin.cap_,run_underlying hu,Result.andThen,goInt]
 simp [execOp,hop,resolve,invoke,builtin,←h1,h2]
theorem vk_slice_nil {E:Env} {N0:Nums} {rg:List Rg} {f:Fr} {g:GK} {t e q:TypeId} {x hi:Operand} {kd:IntKind} {s:SI} (hx:evK f g x=some (.raw (.slice none 0 0))) (hhi:evK f g hi=some (.int kd s)) (hz:s.den=0) (hu:E.P.underlying t=some (.slice e)) (hq:∀ w,(sizeOf e).run E.P w=.ok q w):ValOk E N0 rg f g (.slice t x none (some hi) none) (.raw (.slice none 0 0)):=by
 intro ht N ρ op w hN0 hop hρ hV
 have e1:=hρ _ _ hx
 have e2:=hρ _ _ hhi
 simp only [SV.den,one?,if_true,Option.some.injEq] at e1 e2
 refine ⟨.slice none 0 0,by simp [SV.den,one?],fun w' _=>?_⟩
 have hb:=run_sliceBounds (P:=E.P) (w:=w') (ρ':=ρ) (b:=true) (len:=0) (cap:=0) (lo:=none) (hi:=some hi) (mx:=none) (l:=none) (h:=some 0) (m:=none) (.inl ⟨rfl,rfl⟩) (.inr ⟨kd,0,by simp [←e2,hz],rfl⟩) (.inl ⟨rfl,rfl⟩)
  (by simp) (by simp) (by simp) (by simp)
 simp only [Option.map_none,Option.map_some,Option.getD_none,Option.getD_some] at hb
 simp [execOp,hop,←e1,Instr.sliceAt,run_underlying hu,Result.andThen,Instr.slice,hb,hq]
theorem freshRet_of {P:Program} {fn:Func} {Q:Ending→World→Prop} {W:World} {im:Mem} {D:Nat→Nat→Prop} {Rr:World→Prop} {N0:Nums} {B:SchT} {N:Nums} {rg:List Rg} {w':World} {r n z:Nat} {cs cs':List SV} {v:Value} (hS:Sat (mkE P fn Q W (InR [] []) im D Rr N0 B).toEnv N rg w') (hr:rg[r]?=some ⟨true,cs,none⟩) (h0:0<cs.length) (hp:cs' <+: cs) (hc:∀ c∈cs',∀ (N N':Nums) (v:Value),c.den N=some v→c.den N'=some v)
  (hv:(SV.osl r 0 n z none).den N=some v):FreshRet cs' n z W (.returned v) w':=by
 obtain ⟨p,hpn⟩:∃ p,N[r]?=some p:=⟨_,List.getElem?_eq_getElem (by rw [hS.len];exact (List.getElem?_eq_some_iff.1 hr).1)⟩
 simp only [SV.den,hpn,Num.cap,Nat.add_zero,Nat.sub_zero,Option.some.injEq] at hv
 have hx:=hS.ext r _ p hr hpn rfl
 simp only at hx
 have hl:=hp.length_le
 refine ⟨p.b,p.o,p.x,by rw [←hv],?_,by omega,by omega,fun j c hj=>?_,fun j hj=>hS.room r _ p hr hpn rfl j hj,hS.chg.none⟩
 ·rcases hS.foot r _ p hr hpn rfl with h | h
  ·exact h
  ·exact absurd (h 0 (by omega)) (fun h=>inR_nil h)
 ·obtain ⟨t,rfl⟩:=hp
  have hjl:=(List.getElem?_eq_some_iff.1 hj).1
  obtain ⟨v,h1,h2⟩:=hS.cell r _ p hr hpn j c (by rw [List.getElem?_append_left hjl];exact hj)
  exact ⟨v,hc c (List.mem_of_getElem? hj) _ _ v h1,h2⟩
theorem grow1_ok (w:World):Calls Tryz.prog 127 #[.slice none 0 0,.int .i64 1] w (FreshRet [] 0 1 w):=by
 refine X.begin (rg:=[]) (N:=[]) (ss:=[.raw (.slice none 0 0),.int .i64 (.lit 1)]) Tryz.func127 rfl B127_ok rfl rfl Sat.std0 ?_
 refine X.goP ([(10,.int .i64 (.lit 0)),(19,.int .i64 (.lit 0)),(20,.raw (.slice none 0 0))]) T127_ok 400 _ rfl Tryz.results127 (fun pr fin hpr hfin=>?_)
 conv=>cbv
 refine ⟨hpr _ (vk_slice_nil rfl rfl rfl Tryz.underlying23 Tryz.sizeOf5),hpr _ (vk_cap_nil rfl Tryz.underlying23),hpr _ (vk_cap_nil rfl Tryz.underlying23),hfin _ _ ?_⟩
 refine X.done T127_ok rfl (fun N w' v hN hS hv=>freshRet_of hS (r:=0) rfl (Nat.succ_pos _) (List.nil_prefix) (fun c hc=>absurd hc List.not_mem_nil) hv)
theorem grow2_ok (w:World):Calls Tryz.prog 127 #[.slice none 0 0,.int .i64 2] w (FreshRet [] 0 1 w):=by
 refine X.begin (rg:=[]) (N:=[]) (ss:=[.raw (.slice none 0 0),.int .i64 (.lit 2)]) Tryz.func127 rfl B127_ok rfl rfl Sat.std0 ?_
 refine X.goP ([(10,.int .i64 (.lit 0)),(19,.int .i64 (.lit 0)),(20,.raw (.slice none 0 0))]) T127_ok 400 _ rfl Tryz.results127 (fun pr fin hpr hfin=>?_)
 conv=>cbv
 refine ⟨hpr _ (vk_slice_nil rfl rfl rfl Tryz.underlying23 Tryz.sizeOf5),hpr _ (vk_cap_nil rfl Tryz.underlying23),hpr _ (vk_cap_nil rfl Tryz.underlying23),hfin _ _ ?_⟩
 refine X.done T127_ok rfl (fun N w' v hN hS hv=>freshRet_of hS (r:=0) rfl (Nat.succ_pos _) (List.nil_prefix) (fun c hc=>absurd hc List.not_mem_nil) hv)
theorem grow3_ok (w:World):Calls Tryz.prog 127 #[.slice none 0 0,.int .i64 3] w (FreshRet [] 0 1 w):=by
 refine X.begin (rg:=[]) (N:=[]) (ss:=[.raw (.slice none 0 0),.int .i64 (.lit 3)]) Tryz.func127 rfl B127_ok rfl rfl Sat.std0 ?_
 refine X.goP ([(10,.int .i64 (.lit 0)),(19,.int .i64 (.lit 0)),(20,.raw (.slice none 0 0))]) T127_ok 400 _ rfl Tryz.results127 (fun pr fin hpr hfin=>?_)
 conv=>cbv
 refine ⟨hpr _ (vk_slice_nil rfl rfl rfl Tryz.underlying23 Tryz.sizeOf5),hpr _ (vk_cap_nil rfl Tryz.underlying23),hpr _ (vk_cap_nil rfl Tryz.underlying23),hfin _ _ ?_⟩
 refine X.done T127_ok rfl (fun N w' v hN hS hv=>freshRet_of hS (r:=0) rfl (Nat.succ_pos _) (List.nil_prefix) (fun c hc=>absurd hc List.not_mem_nil) hv)
theorem grow4_ok (w:World):Calls Tryz.prog 127 #[.slice none 0 0,.int .i64 4] w (FreshRet [] 0 1 w):=by
 refine X.begin (rg:=[]) (N:=[]) (ss:=[.raw (.slice none 0 0),.int .i64 (.lit 4)]) Tryz.func127 rfl B127_ok rfl rfl Sat.std0 ?_
 refine X.goP ([(10,.int .i64 (.lit 0)),(19,.int .i64 (.lit 0)),(20,.raw (.slice none 0 0))]) T127_ok 400 _ rfl Tryz.results127 (fun pr fin hpr hfin=>?_)
 conv=>cbv
 refine ⟨hpr _ (vk_slice_nil rfl rfl rfl Tryz.underlying23 Tryz.sizeOf5),hpr _ (vk_cap_nil rfl Tryz.underlying23),hpr _ (vk_cap_nil rfl Tryz.underlying23),hfin _ _ ?_⟩
 refine X.done T127_ok rfl (fun N w' v hN hS hv=>freshRet_of hS (r:=0) rfl (Nat.succ_pos _) (List.nil_prefix) (fun c hc=>absurd hc List.not_mem_nil) hv)
theorem grow5_ok (w:World):Calls Tryz.prog 127 #[.slice none 0 0,.int .i64 5] w (FreshRet [] 0 1 w):=by
 refine X.begin (rg:=[]) (N:=[]) (ss:=[.raw (.slice none 0 0),.int .i64 (.lit 5)]) Tryz.func127 rfl B127_ok rfl rfl Sat.std0 ?_
 refine X.goP ([(10,.int .i64 (.lit 0)),(19,.int .i64 (.lit 0)),(20,.raw (.slice none 0 0))]) T127_ok 400 _ rfl Tryz.results127 (fun pr fin hpr hfin=>?_)
 conv=>cbv
 refine ⟨hpr _ (vk_slice_nil rfl rfl rfl Tryz.underlying23 Tryz.sizeOf5),hpr _ (vk_cap_nil rfl Tryz.underlying23),hpr _ (vk_cap_nil rfl Tryz.underlying23),hfin _ _ ?_⟩
 refine X.done T127_ok rfl (fun N w' v hN hS hv=>freshRet_of hS (r:=0) rfl (Nat.succ_pos _) (List.nil_prefix) (fun c hc=>absurd hc List.not_mem_nil) hv)
theorem grow6_ok (w:World):Calls Tryz.prog 127 #[.slice none 0 0,.int .i64 6] w (FreshRet [] 0 1 w):=by
 refine X.begin (rg:=[]) (N:=[]) (ss:=[.raw (.slice none 0 0),.int .i64 (.lit 6)]) Tryz.func127 rfl B127_ok rfl rfl Sat.std0 ?_
 refine X.goP ([(10,.int .i64 (.lit 0)),(19,.int .i64 (.lit 0)),(20,.raw (.slice none 0 0))]) T127_ok 400 _ rfl Tryz.results127 (fun pr fin hpr hfin=>?_)
 conv=>cbv
 refine ⟨hpr _ (vk_slice_nil rfl rfl rfl Tryz.underlying23 Tryz.sizeOf5),hpr _ (vk_cap_nil rfl Tryz.underlying23),hpr _ (vk_cap_nil rfl Tryz.underlying23),hfin _ _ ?_⟩
 refine X.done T127_ok rfl (fun N w' v hN hS hv=>freshRet_of hS (r:=0) rfl (Nat.succ_pos _) (List.nil_prefix) (fun c hc=>absurd hc List.not_mem_nil) hv)
theorem grow0_ok (w:World):Calls Tryz.prog 127 #[.slice none 0 0,.int .i64 0] w fun e w'=>e=.returned (.slice none 0 0)∧Chg (fun _ _=>False) w w':=by
 refine X.begin (rg:=[]) (N:=[]) (ss:=[.raw (.slice none 0 0),.int .i64 (.lit 0)]) Tryz.func127 rfl B127_ok rfl rfl Sat.std0 ?_
 refine X.goP ([(10,.int .i64 (.lit 0)),(19,.int .i64 (.lit 0)),(20,.raw (.slice none 0 0))]) T127_ok 400 _ rfl Tryz.results127 (fun pr fin hpr hfin=>?_)
 conv=>cbv
 refine ⟨hpr _ (vk_cap_nil rfl Tryz.underlying23),hfin _ _ ?_⟩
 refine X.done T127_ok rfl (fun N w' v hN hS hv=>?_)
 simp [resV,SV.den,one?] at hv
 exact ⟨by rw [←hv],hS.chg.none⟩
theorem grow_ok (k:Nat) (h0:0<k) (h6:k≤6) (w:World):Calls Tryz.prog 127 #[.slice none 0 0,.int .i64 k] w (FreshRet [] 0 1 w):=by
 match k,h0,h6 with
 | 1,_,_=>exact grow1_ok w
 | 2,_,_=>exact grow2_ok w
 | 3,_,_=>exact grow3_ok w
 | 4,_,_=>exact grow4_ok w
 | 5,_,_=>exact grow5_ok w
 | 6,_,_=>exact grow6_ok w
theorem Sat.addIm {E:Env} {N:Nums} {rg:List Rg} {w:World} (h:Sat E N rg w) {b y x:Nat} {cs:List SV} (h0:0<cs.length) (hcs:∀ (j:Nat) (c:SV),cs[j]?=some c→∃ v,(∀ N,c.den N=some v)∧E.im b (y+j)=some v):Sat E (N++[⟨b,y,x⟩]) (rg++[⟨false,cs,none⟩]) w:=by
 have hle:N.le (N++[⟨b,y,x⟩]):=Nums.le_append _ _
 have hb:b<w.heap.size:=by
  obtain ⟨v,_,h2⟩:=hcs 0 _ (List.getElem?_eq_getElem h0)
  exact World.block_lt_of_cell? _ _ (h.imm _ _ _ h2)
 refine ⟨by simp [h.len],?_,?_,?_,?_,?_,?_,?_,h.imm,?_,?_,h.dlt,h.loc,h.res,h.chg,?_⟩
 ·intro i q hq
  rcases Nat.lt_or_ge i N.length with hi | hi
  ·rw [List.getElem?_append_left hi] at hq;exact h.lt i q hq
  ·rw [List.getElem?_append_right hi] at hq
   have hz:i-N.length=0:=by
    have:=(List.getElem?_eq_some_iff.1 hq).1
    simp at this;omega
   rw [hz] at hq;simp at hq;subst hq;exact hb
 ·intro i g q hg hq j d hj
  rcases get_snoc h.len hg hq with ⟨a,b⟩ | ⟨_,rfl,rfl⟩
  ·obtain ⟨v,h1,h2⟩:=h.cell i g q a b j d hj
   exact ⟨v,SV.den_mono hle d h1,h2⟩
  ·obtain ⟨v,h1,h2⟩:=hcs j d hj
   exact ⟨v,h1 _,h.imm _ _ _ h2⟩
 ·intro i g q hg hq ho
  rcases get_snoc h.len hg hq with ⟨a,b⟩ | ⟨_,rfl,rfl⟩
  ·exact h.ext i g q a b ho
  ·cases ho
 ·intro i g q hg hq ho
  rcases get_snoc h.len hg hq with ⟨a,b⟩ | ⟨_,rfl,rfl⟩
  ·exact h.room i g q a b ho
  ·cases ho
 ·intro i i' g g' q q' hg hq hg' hq' ho hne j hj hb'
  rcases get_snoc h.len hg hq with ⟨a1,a2⟩ | ⟨a0,rfl,rfl⟩
  ·rcases get_snoc h.len hg' hq' with ⟨b1,b2⟩ | ⟨b0,rfl,rfl⟩
   ·exact h.disj i i' g g' q q' a1 a2 b1 b2 ho hne j hj hb'
   ·have hj:j<cs.length:=hj
    obtain ⟨v,_,k2⟩:=hcs j _ (List.getElem?_eq_getElem hj)
    simp only at hb' ⊢
    rcases Nat.lt_or_ge (y+j) q.o with k | k
    ·exact .inl k
    ·rcases Nat.lt_or_ge (y+j) (q.o+q.x) with k3 | k3
     ·have:=h.imd i g q a1 a2 ho (y+j-q.o) (by omega)
      rw [show q.o+(y+j-q.o)=y+j by omega,←hb',k2] at this
      cases this
     ·exact .inr k3
  ·cases ho
 ·intro i g q ob hg hq ho
  rcases get_snoc h.len hg hq with ⟨a,b⟩ | ⟨_,rfl,rfl⟩
  ·obtain ⟨⟨o',k1,k2⟩,k3⟩:=h.obj i g q ob a b ho
   exact ⟨⟨o',Ob.den_mono hle ob k1,k2⟩,k3⟩
  ·simp at ho
 ·intro i i' g g' q q' hg hq hg' hq' ho ho' hne
  rcases get_snoc h.len hg hq with ⟨a1,a2⟩ | ⟨a0,rfl,rfl⟩
  ·rcases get_snoc h.len hg' hq' with ⟨b1,b2⟩ | ⟨b0,rfl,rfl⟩
   ·exact h.odisj i i' g g' q q' a1 a2 b1 b2 ho ho' hne
   ·simp at ho'
  ·simp at ho
 ·intro i g q hg hq ho
  rcases get_snoc h.len hg hq with ⟨a,b⟩ | ⟨_,rfl,rfl⟩
  ·exact h.imd i g q a b ho
  ·cases ho
 ·intro i g q hg hq ho
  rcases get_snoc h.len hg hq with ⟨a,b⟩ | ⟨_,rfl,rfl⟩
  ·exact h.dd i g q a b ho
  ·cases ho
 ·intro i g q hg hq ho
  rcases get_snoc h.len hg hq with ⟨a,b⟩ | ⟨_,rfl,rfl⟩
  ·exact h.foot i g q a b ho
  ·cases ho
theorem X.addIm {E:Ctx} {k:List It} {f:Fr} (f':Fr) {rg:List Rg} (b y:Nat) {cs:List SV} (h0:0<cs.length) (hc:∀ (j:Nat) (c:SV),cs[j]?=some c→∃ v,(∀ N,c.den N=some v)∧E.im b (y+j)=some v)
  (hs:∀ N:Nums,N.length=rg.length→Sh N (N++[⟨b,y,cs.length⟩]) f f') (h:X E k ⟨f',rg++[⟨false,cs,none⟩]⟩):X E k ⟨f,rg⟩:=by
 refine X.conv fun N a w hN hf hS=>?_
 exact ⟨E,⟨f',rg++[⟨false,cs,none⟩]⟩,rfl,rfl,rfl,rfl,⟨N++[⟨b,y,cs.length⟩],hN.trans (Nums.le_append _ _),hf.sh (hs N hS.len),Sat.addIm hS h0 hc⟩,h⟩
theorem flat_take {ls:List (List Int)} {i:Nat} (h:i<ls.length):(ls.take (i+1)).flatten=(ls.take i).flatten++ls[i]! := by
 rw [List.take_add_one,List.getElem?_eq_getElem h,getElem!_pos ls i h,List.flatten_append]
 simp
theorem concat_ok (ls:List (List Int)) (b y m c:Nat) (w:World) (hm:m=ls.length) (hT:ls.flatten.length≤6) (hm8:m≤1000)
  (hcell:∀ j,j<m→∃ p c,w.cell? ⟨b,y+j,none⟩=some (.slice p ls[j]!.length c)∧BytNew ls[j]! 0 (wm w) p c) :
  Calls Tryz.prog 97 #[.slice (some ⟨b,y,none⟩) m c] w (BytRet ls.flatten w):=by
 obtain ⟨F,hF⟩:∃ F,F=ls.flatten:=⟨_,rfl⟩
 obtain ⟨T,hTT⟩:∃ T,T=F.length:=⟨_,rfl⟩
 have hT6:T≤6:=by rw [hTT,hF];exact hT
 have hpre:∀ i,(ls.take i).flatten.length≤T:=fun i=>by
  have:ls.flatten.length=(ls.take i).flatten.length+(ls.drop i).flatten.length:=by rw [←List.length_append,←List.flatten_append,List.take_append_drop]
  rw [hTT,hF]
  omega
 obtain ⟨Q,hQ⟩:∃ Q:Ending→World→Prop,Q=BytRet F w:=⟨_,rfl⟩
 obtain ⟨pz,hpr0⟩:∃ p,p=some (Addr.mk b y none):=⟨_,rfl⟩
 rw [←hF,←hQ,←hpr0]
 refine X.begin (rg:=[]) (N:=[]) (ss:=[.slv pz m c]) Tryz.func97 rfl B97_ok rfl rfl Sat.std0 ?_
 obtain ⟨im,him⟩:∃ im,im=elsewhere [] [] w:=⟨_,rfl⟩
 have hcell:∀ j,j<m→∃ p c,im b (y+j)=some (.slice p ls[j]!.length c)∧BytNew ls[j]! 0 im p c:=fun j hj=>by
  obtain ⟨p,c,h1,h2⟩:=hcell j hj
  exact ⟨p,c,by rw [him,els_old];exact h1,h2.mono (Nat.le_refl _) fun k o v _ hv=>by rw [him,els_old];exact hv⟩
 show X (mkE Tryz.prog Tryz.f97 Q w (InR [] []) (elsewhere [] [] w) (fun _ _=>False) (fun _=>True) [] B97) _ _
 rw [←him]
 refine X.go T97_ok 400 _ rfl Tryz.results97 ?_
 conv=>arg 2;cbv
 refine X.loop (fun _:{i:Nat // i≤m}=>mkE Tryz.prog Tryz.f97 Q w (InR [] []) im (fun _ _=>False) (fun _=>True) [] B97)
  (fun g=>⟨[(0,.val (.slv pz m c)),(3,.val (.int .i64 (.nat (ls.take g.1).flatten.length))),(9,.val (.slv pz m c)),(10,.val (.int .i64 (.nat m))),(11,.val (.int .i64 (.nat g.1)))],[]⟩) (fun g=>m-g.1) (fun _=>⟨rfl,rfl,rfl,rfl⟩) (fun N ac w' hN hf hS=>⟨⟨0,Nat.zero_le _⟩,?_⟩) (fun g q hq=>?_)
 ·exact At.again hf hS (by repeat first | exact trivial | refine ⟨⟨_,rfl,.inl ⟨rfl,rfl⟩⟩,?_⟩ | refine ⟨⟨_,rfl,.inr ⟨_,rfl,rfl⟩⟩,?_⟩ | refine ⟨⟨_,rfl,.inr ⟨_,rfl,by simp (disch:=omega) [SV.den,SI.den,wrapU,wrapD]<;>omega⟩⟩,?_⟩) trivial
 obtain ⟨i,hi⟩:=g
 obtain ⟨t,ht⟩:∃ t,t=(ls.take i).flatten.length:=⟨_,rfl⟩
 have ht6:t≤T:=by rw [ht];exact hpre i
 show X (mkE Tryz.prog Tryz.f97 Q w (InR [] []) im (fun _ _=>False) (fun _=>True) [] B97) _ ⟨[(0,.val (.slv pz m c)),(3,.val (.int .i64 (.nat (ls.take i).flatten.length))),(9,.val (.slv pz m c)),(10,.val (.int .i64 (.nat m))),(11,.val (.int .i64 (.nat i)))],[]⟩
 rw [←ht]
 refine X.go T97_ok 400 _ rfl Tryz.results97 ?_
 conv=>arg 2;cbv
 refine X.cond rfl (fun hlt=>?_) (fun hge=>?_)
 ·simp only [SB.T,SI.den] at hlt
  have hlt:i<m:=by omega
  obtain ⟨p1,c1,hc1,hb1⟩:=hcell i hlt
  have hft:=flat_take (ls:=ls) (i:=i) (by omega)
  obtain ⟨l,hl⟩:∃ l,l=ls[i]! := ⟨_,rfl⟩
  rw [←hl] at hc1 hb1 hft
  obtain ⟨q1,hq1⟩:∃ q,q=l.length:=⟨_,rfl⟩
  obtain ⟨oi,hoi⟩:∃ o,o=y+i:=⟨_,rfl⟩
  obtain ⟨tq,htq⟩:∃ z,z=t+q1:=⟨_,rfl⟩
  have htn:(ls.take (i+1)).flatten.length=tq:=by rw [hft,List.length_append,htq,ht,hq1]
  have htn6:tq≤T:=by rw [←htn];exact hpre (i+1)
  have hw:IntKind.i64.wrap ((t:Int)+(q1:Int))=(tq:Int):=by rw [wrapN _ (by omega) (by omega)];omega
  refine X.goP ([(13,.ext b oi 0),(14,.slv p1 q1 c1)]) T97_ok 400 _ rfl Tryz.results97 (fun pr fin hpr hfin=>?_)
  conv=>cbv
  refine ⟨hpr _ (ValOk.im1 rfl Tryz.isAgg23 (fun _=>rfl) fun _=>by rw [Nat.add_zero,hoi,hq1];exact hc1),hpr _ (ValOk.at (z:=i) rfl rfl (fun _=>rfl) Tryz.underlying139 Tryz.sizeOf23 (fun _=>hlt) hpr0 (by omega)),hfin _ _ ?_⟩
  refine X.reval 3 (.int .i64 (.nat tq)) rfl (fun N _ v hv=>by rw [←hv];simp only [SV.den,SI.den,hw]) ?_
  refine X.cond rfl (fun hT=>?_) (fun hF'=>?_)
  ·simp only [SB.T,SI.den,hw] at hT
   omega
  ·skip
   refine X.go T97_ok 400 _ rfl Tryz.results97 ?_
   conv=>arg 2;cbv
   refine X.back (fun N ac w' hN hf hS=>hq ⟨i+1,hlt⟩ ac w' (by simp only;omega) ?_)
   show Eng.At (mkE Tryz.prog Tryz.f97 Q w (InR [] []) im (fun _ _=>False) (fun _=>True) [] B97) ⟨[(0,.val (.slv pz m c)),(3,.val (.int .i64 (.nat (ls.take (i+1)).flatten.length))),(9,.val (.slv pz m c)),(10,.val (.int .i64 (.nat m))),(11,.val (.int .i64 (.nat (i+1))))],[]⟩ ac w'
   rw [htn]
   exact At.again hf hS (by repeat first | exact trivial | refine ⟨⟨_,rfl,.inl ⟨rfl,rfl⟩⟩,?_⟩ | refine ⟨⟨_,rfl,.inr ⟨_,rfl,rfl⟩⟩,?_⟩ | refine ⟨⟨_,rfl,.inr ⟨_,rfl,by simp (disch:=omega) [SV.den,SI.den,wrapU,wrapD]<;>omega⟩⟩,?_⟩) trivial
 ·simp only [SB.F,SI.den] at hge
  have hall:ls.take i=ls:=List.take_of_length_le (by omega)
  have htT:t=T:=by rw [ht,hall,hTT,hF]
  clear hge hq
  rcases Nat.eq_zero_or_pos T with h0 | h0
  ·have hF0:F=[]:=List.eq_nil_of_length_eq_zero (by omega)
   have hrow:∀ j,j<m→im b (y+j)=some (.slice none 0 0):=fun j hj=>by
    obtain ⟨p1,c1,hc1,hb1⟩:=hcell j hj
    have hl0:ls[j]! = []:=by
     have h1:=flat_take (ls:=ls) (i:=j) (by omega)
     have h2:=hpre (j+1)
     rw [h1,List.length_append] at h2
     exact List.eq_nil_of_length_eq_zero (by omega)
    rw [hl0] at hc1 hb1
    rcases hb1.2 with ⟨_,rfl,rfl⟩ | ⟨hne,_⟩
    ·exact hc1
    ·exact absurd rfl hne
   have ht0:t=0:=by omega
   refine X.goP ([(24,.raw (.slice none 0 0))]) T97_ok 400 _ rfl Tryz.results97 (fun pr fin hpr hfin=>?_)
   conv=>cbv
   refine ⟨hpr _ (.of Tryz.call127 [.slice none 0 0,.int .i64 t] (.slice none 0 0) (fun _=>by simp [SV.denL,SV.den,one?,SI.den]) (fun _=>by simp [SV.den,one?]) fun _ w1 _=>by rw [ht0];exact grow0_ok w1),hfin _ _ ?_⟩
   refine X.loop (fun _:{i:Nat // i≤m}=>mkE Tryz.prog Tryz.f97 Q w (InR [] []) im (fun _ _=>False) (fun _=>True) [] B97)
    (fun g=>⟨[(6,.val (.raw (.slice none 0 0))),(25,.val (.slv pz m c)),(26,.val (.int .i64 (.nat m))),(27,.val (.int .i64 (.nat g.1)))],[]⟩) (fun g=>m-g.1) (fun _=>⟨rfl,rfl,rfl,rfl⟩) (fun N ac w' hN hf hS=>⟨⟨0,Nat.zero_le _⟩,?_⟩) (fun g q hq=>?_)
   ·exact At.again hf hS (by repeat first | exact trivial | refine ⟨⟨_,rfl,.inl ⟨rfl,rfl⟩⟩,?_⟩ | refine ⟨⟨_,rfl,.inr ⟨_,rfl,rfl⟩⟩,?_⟩ | refine ⟨⟨_,rfl,.inr ⟨_,rfl,by simp (disch:=omega) [SV.den,SI.den,wrapU,wrapD]<;>omega⟩⟩,?_⟩) trivial
   obtain ⟨i,hi⟩:=g
   show X (mkE Tryz.prog Tryz.f97 Q w (InR [] []) im (fun _ _=>False) (fun _=>True) [] B97) _ ⟨[(6,.val (.raw (.slice none 0 0))),(25,.val (.slv pz m c)),(26,.val (.int .i64 (.nat m))),(27,.val (.int .i64 (.nat i)))],[]⟩
   refine X.go T97_ok 400 _ rfl Tryz.results97 ?_
   conv=>arg 2;cbv
   refine X.cond rfl (fun hlt=>?_) (fun hge=>?_)
   ·simp only [SB.T,SI.den] at hlt
    have hlt:i<m:=by omega
    have hc1:=hrow i hlt
    obtain ⟨oi,hoi⟩:∃ o,o=y+i:=⟨_,rfl⟩
    refine X.goP ([(29,.ext b oi 0),(30,.raw (.slice none 0 0))]) T97_ok 400 _ rfl Tryz.results97 (fun pr fin hpr hfin=>?_)
    conv=>cbv
    refine ⟨hpr _ (ValOk.im1 rfl Tryz.isAgg23 (fun _=>by simp [SV.den,one?];rfl) fun _=>by rw [Nat.add_zero,hoi];exact hc1),hpr _ (ValOk.at (z:=i) rfl rfl (fun _=>rfl) Tryz.underlying139 Tryz.sizeOf23 (fun _=>hlt) hpr0 (by omega)),hfin _ _ ?_⟩
    refine X.back (fun N ac w' hN hf hS=>hq ⟨i+1,hlt⟩ ac w' (by simp only;omega) ?_)
    exact At.again hf hS (by repeat first | exact trivial | refine ⟨⟨_,rfl,.inl ⟨rfl,rfl⟩⟩,?_⟩ | refine ⟨⟨_,rfl,.inr ⟨_,rfl,rfl⟩⟩,?_⟩ | refine ⟨⟨_,rfl,.inr ⟨_,rfl,by simp (disch:=omega) [SV.den,SI.den,wrapU,wrapD]<;>omega⟩⟩,?_⟩) trivial
   ·simp only [SB.F,SI.den] at hge
    refine X.go T97_ok 400 _ rfl Tryz.results97 ?_
    conv=>arg 2;cbv
    refine X.done T97_ok rfl (fun N w' v hN hS hv=>?_)
    simp [resV,SV.den,one?] at hv
    rw [hQ,hF0]
    exact ⟨none,0,by rw [←hv];rfl,Nat.le_refl _,.inl ⟨rfl,rfl,rfl⟩,hS.chg.none⟩
  ·skip
   refine X.go T97_ok 400 _ rfl Tryz.results97 ?_
   conv=>arg 2;cbv
   refine X.call rfl rfl rfl rfl Tryz.call127 (fun N w1 args hN hS ha=>?_)
   have ha:args=[.slice none 0 0,.int .i64 T]:=by
    obtain ⟨v,l1,rfl,hv,ha⟩:=denL_cons ha
    obtain ⟨v2,l2,rfl,hv2,ha⟩:=denL_cons ha
    obtain rfl:=denL_nil ha
    simp [ofVal,SV.den,one?] at hv
    simp only [SV.den,SI.den,Option.some.injEq] at hv2
    rw [←hv,←hv2,htT]
   rw [ha]
   refine (grow_ok T h0 hT6 w1).mono fun e w2 hr=>Goes.fresh hN hS hr rfl ?_
   refine X.go T97_ok 400 _ rfl Tryz.results97 ?_
   conv=>arg 2;cbv
   refine X.loop (fun _:{i:Nat // i≤m}=>mkE Tryz.prog Tryz.f97 Q w (InR [] []) im (fun _ _=>False) (fun _=>True) [] B97)
    (fun g=>⟨[(6,.val (.osl 0 0 (ls.take g.1).flatten.length 1 none)),(25,.val (.slv pz m c)),(26,.val (.int .i64 (.nat m))),(27,.val (.int .i64 (.nat g.1)))],[⟨true,bytL (ls.take g.1).flatten,none⟩]⟩) (fun g=>m-g.1) (fun _=>⟨rfl,rfl,rfl,rfl⟩) (fun N ac w' hN hf hS=>⟨⟨0,Nat.zero_le _⟩,?_⟩) (fun g q hq=>?_)
   ·exact At.again hf hS (by repeat first | exact trivial | refine ⟨⟨_,rfl,.inl ⟨rfl,rfl⟩⟩,?_⟩ | refine ⟨⟨_,rfl,.inr ⟨_,rfl,rfl⟩⟩,?_⟩ | refine ⟨⟨_,rfl,.inr ⟨_,rfl,by simp (disch:=omega) [SV.den,SI.den,wrapU,wrapD]<;>omega⟩⟩,?_⟩) ⟨fun h=>h,trivial,rfl,trivial⟩
   obtain ⟨i,hi⟩:=g
   obtain ⟨A,hA⟩:∃ A,A=(ls.take i).flatten:=⟨_,rfl⟩
   obtain ⟨la,hla⟩:∃ m,m=A.length:=⟨_,rfl⟩
   have hla6:la≤6:=by have:=hpre i;rw [←hA,←hla] at this;omega
   obtain ⟨ca,hca⟩:∃ v,v=bytL A:=⟨_,rfl⟩
   have hcab:∀ m,ca.all (bd m)=true:=fun m=>by rw [hca];exact bytL_bd
   have hcal:ca.length=la:=by rw [hca,bytL_len,hla]
   show X (mkE Tryz.prog Tryz.f97 Q w (InR [] []) im (fun _ _=>False) (fun _=>True) [] B97) _ ⟨[(6,.val (.osl 0 0 (ls.take i).flatten.length 1 none)),(25,.val (.slv pz m c)),(26,.val (.int .i64 (.nat m))),(27,.val (.int .i64 (.nat i)))],[⟨true,bytL (ls.take i).flatten,none⟩]⟩
   rw [←hA,←hla,←hca]
   refine X.go T97_ok 400 _ rfl Tryz.results97 ?_
   conv=>arg 2;cbv
   refine X.cond rfl (fun hlt=>?_) (fun hge=>?_)
   ·simp only [SB.T,SI.den] at hlt
    have hlt:i<m:=by omega
    obtain ⟨p1,c1,hc1,hb1⟩:=hcell i hlt
    have hft:=flat_take (ls:=ls) (i:=i) (by omega)
    obtain ⟨l,hl⟩:∃ l,l=ls[i]! := ⟨_,rfl⟩
    rw [←hl] at hc1 hb1 hft
    rw [←hA] at hft
    obtain ⟨q1,hq1⟩:∃ q,q=l.length:=⟨_,rfl⟩
    rw [←hq1] at hc1
    obtain ⟨oi,hoi⟩:∃ o,o=y+i:=⟨_,rfl⟩
    have hq16:la+q1≤6:=by have:=hpre (i+1);rw [hft,List.length_append,←hla,←hq1] at this;omega
    rcases hb1.2 with ⟨hl0,rfl,rfl⟩ | ⟨hne,b2,y2,hp1,_,hli⟩
    ·have hq0:q1=0:=by rw [hq1,hl0];rfl
     rw [hq0] at hc1
     rw [hl0,List.append_nil] at hft
     refine X.goP ([(29,.ext b oi 0),(30,.raw (.slice none 0 0))]) T97_ok 12 _ rfl Tryz.results97 (fun pr fin hpr hfin=>?_)
     conv=>cbv
     refine ⟨hpr _ (ValOk.im1 rfl Tryz.isAgg23 (fun _=>by simp [SV.den,one?];rfl) fun _=>by rw [Nat.add_zero,hoi];exact hc1),hpr _ (ValOk.at (z:=i) rfl rfl (fun _=>rfl) Tryz.underlying139 Tryz.sizeOf23 (fun _=>hlt) hpr0 (by omega)),hfin _ _ ?_⟩
     refine X.opEq (T:=T97) T97_ok (opE_append (te:=ti5) (new:=[]) (m:=0) rfl rfl rfl rfl rfl rfl rfl rfl rfl (appV_none (te:=ti5) (n:=la) (cs:=ca) rfl (by show ca.length=la*1;omega) (appOk_ok (by decide) rfl rfl rfl (by show (2*(la+0)+256)*1≤_;omega) (by omega))) rfl) ?_
     refine X.go T97_ok 400 _ rfl Tryz.results97 ?_
     conv=>arg 2;cbv
     refine X.back (fun N ac w' hN hf hS=>hq ⟨i+1,hlt⟩ ac w' (by simp only;omega) ?_)
     show Eng.At (mkE Tryz.prog Tryz.f97 Q w (InR [] []) im (fun _ _=>False) (fun _=>True) [] B97) ⟨[(6,.val (.osl 0 0 (ls.take (i+1)).flatten.length 1 none)),(25,.val (.slv pz m c)),(26,.val (.int .i64 (.nat m))),(27,.val (.int .i64 (.nat (i+1))))],[⟨true,bytL (ls.take (i+1)).flatten,none⟩]⟩ ac w'
     rw [hft,←hla,←hca]
     exact At.again hf hS (by repeat first | exact trivial | refine ⟨⟨_,rfl,.inl ⟨rfl,rfl⟩⟩,?_⟩ | refine ⟨⟨_,rfl,.inr ⟨_,rfl,rfl⟩⟩,?_⟩ | refine ⟨⟨_,rfl,.inr ⟨_,rfl,by simp (disch:=omega) [SV.den,SI.den,wrapU,wrapD]<;>omega⟩⟩,?_⟩) ⟨fun h=>h,SubC.refl (hcab _),rfl,trivial⟩
    ·skip
     refine X.goP ([(29,.ext b oi 0),(30,.slv p1 q1 c1)]) T97_ok 12 _ rfl Tryz.results97 (fun pr fin hpr hfin=>?_)
     conv=>cbv
     refine ⟨hpr _ (ValOk.im1 rfl Tryz.isAgg23 (fun _=>rfl) fun _=>by rw [Nat.add_zero,hoi];exact hc1),hpr _ (ValOk.at (z:=i) rfl rfl (fun _=>rfl) Tryz.underlying139 Tryz.sizeOf23 (fun _=>hlt) hpr0 (by omega)),hfin _ _ ?_⟩
     obtain ⟨cl,hcl⟩:∃ c,c=bytL l:=⟨_,rfl⟩
     have hcll:cl.length=q1:=by rw [hcl,bytL_len,hq1]
     have hq10:0<q1:=by rw [hq1];exact List.length_pos_iff.2 hne
     refine X.less [25,26,27,31,32] ?_
     show X (mkE Tryz.prog Tryz.f97 Q w (InR [] []) im (fun _ _=>False) (fun _=>True) [] B97) _ ⟨[(32,.val (.slv p1 q1 c1)),(31,.val (.osl 0 0 la 1 none)),(25,.val (.slv pz m c)),(26,.val (.int .i64 (.nat m))),(27,.val (.int .i64 (.nat i)))],[⟨true,ca,none⟩]⟩
     refine X.addIm [(32,.val (.osl 1 0 q1 1 (some c1))),(31,.val (.osl 0 0 la 1 none)),(25,.val (.slv pz m c)),(26,.val (.int .i64 (.nat m))),(27,.val (.int .i64 (.nat i)))] b2 y2 (cs:=cl) (by omega) (fun j x hj=>?_) (fun N hN=>?_) ?_
     ·rw [hcl] at hj
      have hjl:j<l.length:=by have:=(List.getElem?_eq_some_iff.1 hj).1;rwa [bytL_len] at this
      obtain rfl:x=.int .u8 (.v l[j]!):=by
       have:(bytL l)[j]?=some (.int .u8 (.v l[j]!)):=by simp [bytL,hjl]
       rw [this] at hj
       exact (Option.some.inj hj).symm
      exact ⟨_,fun _=>rfl,hli j hjl⟩
     ·obtain ⟨n0,rfl⟩:∃ n0,N=[n0]:=by
       match N,hN with
       | [a],_=>exact ⟨a,rfl⟩
      refine ⟨rfl,fun x h=>?_,rfl,fun _ h=>h,rfl,fun _ h=>h,rfl,fun _ h=>h,rfl,fun _ h=>h,trivial⟩
      rw [hp1] at h
      simpa [SV.den,Num.cap] using h
     refine X.appG (T:=T97) (te:=ti5) (r:=0) (n:=la) (m:=q1) (cs:=ca) (new:=cl) T97_ok rfl [25,26,27,33] rfl rfl rfl rfl rfl rfl rfl rfl (.inr (.inr rfl)) rfl (by show ca.length=la*1;omega) (by omega) (appSrc_row (g:=⟨false,cl,none⟩) rfl rfl rfl (by show cl.length=q1*1;omega)) (appOk_ok (by decide) rfl (by show cl.length=q1*1;omega) (by rw [hcl];exact bytL_one) (by show (2*(la+q1)+256)*1≤_;omega) (by omega)) rfl rfl rfl (by repeat first | exact trivial | refine ⟨rfl,?_⟩ | refine ⟨by assumption,?_⟩) ⟨.inl rfl,.inr (by rw [hcl];exact bytL_frr),trivial⟩ (by rw [List.all_append,hca,hcl,bytL_frr,bytL_frr];rfl) rfl ?_
     obtain ⟨c3,hc3⟩:∃ c,c=ca++cl:=⟨_,rfl⟩
     have hc3b:c3=bytL (A++l):=by rw [hc3,hca,hcl];simp [bytL]
     have hc3d:∀ m,c3.all (bd m)=true:=fun m=>by rw [hc3b];exact bytL_bd
     obtain ⟨lq,hlq⟩:∃ z,z=la+q1:=⟨_,rfl⟩
     show X (mkE Tryz.prog Tryz.f97 Q w (InR [] []) im (fun _ _=>False) (fun _=>True) [] B97) _ ⟨[(33,.val (.osl 0 0 (la+q1) 1 none)),(25,.val (.slv pz m c)),(26,.val (.int .i64 (.nat m))),(27,.val (.int .i64 (.nat i)))],[⟨true,ca++cl,none⟩,⟨false,cl,none⟩]⟩
     rw [←hc3,←hlq]
     refine X.go T97_ok 400 _ rfl Tryz.results97 ?_
     conv=>arg 2;cbv
     refine X.back (fun N ac w' hN hf hS=>hq ⟨i+1,hlt⟩ ac w' (by simp only;omega) ?_)
     show Eng.At (mkE Tryz.prog Tryz.f97 Q w (InR [] []) im (fun _ _=>False) (fun _=>True) [] B97) ⟨[(6,.val (.osl 0 0 (ls.take (i+1)).flatten.length 1 none)),(25,.val (.slv pz m c)),(26,.val (.int .i64 (.nat m))),(27,.val (.int .i64 (.nat (i+1))))],[⟨true,bytL (ls.take (i+1)).flatten,none⟩]⟩ ac w'
     rw [hft,←hc3b,List.length_append,←hla,←hq1,←hlq]
     exact At.again hf hS (by repeat first | exact trivial | refine ⟨⟨_,rfl,.inl ⟨rfl,rfl⟩⟩,?_⟩ | refine ⟨⟨_,rfl,.inr ⟨_,rfl,rfl⟩⟩,?_⟩ | refine ⟨⟨_,rfl,.inr ⟨_,rfl,by simp (disch:=omega) [SV.den,SI.den,wrapU,wrapD]<;>omega⟩⟩,?_⟩) ⟨fun h=>h,SubC.refl (hc3d _),rfl,trivial⟩
   ·simp only [SB.F,SI.den] at hge
    have hall:ls.take i=ls:=List.take_of_length_le (by omega)
    have hAF:A=F:=by rw [hA,hall,hF]
    refine X.go T97_ok 400 _ rfl Tryz.results97 ?_
    conv=>arg 2;cbv
    refine X.done T97_ok rfl (fun N w' v hN hS hv=>?_)
    obtain ⟨p4,hp4⟩:=num_of hS (r:=0) rfl
    have hext:=hS.ext 0 _ p4 rfl hp4 rfl
    simp only [hcal] at hext
    simp only [resV,SV.den,hp4,Num.cap,Option.some.injEq] at hv
    have hFl:F.length=la:=by rw [←hAF,hla]
    rw [hQ]
    refine ⟨some ⟨p4.b,p4.o,none⟩,_,by rw [←hv,hFl,Nat.add_zero],by rw [hFl];simpa using hext,.inr ⟨fun h=>by rw [h] at hTT;simp at hTT;omega,p4.b,p4.o,rfl,?_,fun j hj=>?_⟩,hS.chg.none⟩
    ·rcases hS.foot 0 _ p4 rfl hp4 rfl with h | h
     ·exact h
     ·exact absurd (h 0 (by omega)) (fun h=>inR_nil h)
    ·rw [←hAF] at hj ⊢
     have hj:j<A.length:=by simpa using hj
     obtain ⟨v0,h1,h2⟩:=hS.cell 0 _ p4 rfl hp4 j (.int .u8 (.v A[j]!)) (by show ca[j]?=_;rw [hca];simp [bytL,hj])
     simp only [SV.den,SI.den,Option.some.injEq] at h1
     subst h1
     exact ⟨by simpa using h2,(hS.room 0 _ p4 rfl hp4 rfl j (by omega)).2⟩
end Go.Proofs.YthaffebapmkppaaGreat
