import Derived.Test.YthaffebapmkppaaGreatCf6
import Derived.Test.YthaffebapmkppaaGreatPd1
import Derived.Test.YthaffebapmkppaaGreatRg9
import Derived.Lib.Overlaps
set_option maxHeartbeats 16000000
set_option maxRecDepth 100000
set_option cbv.maxSteps 100000000
namespace Go.Proofs.YthaffebapmkppaaGreat
open Go Go.Eng Go.Sort
def keepC (C:Nat) (o n:Array Int) (key:Int):List Int:=(ascA (ringsL C o n key).flatten.toArray).toList
theorem ofL_3 (d:Array Int) (key:Int):(ofL d key).length≤3:=by
 rw [(ofL_perm d key).length_eq,keepL_eq (ringP_rise d)]
 simp
 omega
theorem rings_flat (C:Nat) (o n:Array Int) (key:Int):(ringsL C o n key).flatten.length≤6:=by
 have h1:=ofL_3 n key
 have h2:=ofL_3 o key
 unfold ringsL
 split<;>simp<;>omega
theorem keepC_mem {C:Nat} {o n:Array Int} {key x:Int}:x∈keepC C o n key↔x∈(ringsL C o n key).flatten:=ascA_iff _ x
theorem keepC_asc {C:Nat} {o n:Array Int} {key:Int} (hbo:∀ x∈o.toList,0≤x∧x<256) (hbn:∀ x∈n.toList,0≤x∧x<256):asc (ringsL C o n key).flatten 256=keepC C o n key:=by
 have hb:∀ x∈(ringsL C o n key).flatten,0≤x∧x<256:=fun x hx=>by
  unfold ringsL at hx
  split at hx
  ·simp only [List.flatten_cons,List.flatten_nil,List.append_nil,List.mem_append] at hx
   rcases hx with h | h
   ·exact hbn x (ofL_sub h)
   ·exact hbo x (ofL_sub h)
  ·simp only [List.flatten_cons,List.flatten_nil,List.append_nil] at hx
   exact hbn x (ofL_sub hx)
 refine lt_eq (asc_lt _ _) (ascA_lt _) fun y=>?_
 rw [asc_mem hb,keepC_mem]
theorem keepC_64 {C:Nat} {o n:Array Int} {key:Int} (h:mayC C o n) (hbo:∀ x∈o.toList,0≤x∧x<256) (hbn:∀ x∈n.toList,0≤x∧x<256):∀ x∈keepC C o n key,0≤x∧x<64:=fun x hx=>by
 rw [keepC_mem] at hx
 obtain ⟨l,hl,hx⟩:=List.mem_flatten.1 hx
 obtain ⟨j,hj,rfl⟩:=List.getElem_of_mem hl
 have:=(rings_64 h hbo hbn j hj).2 x (by rw [getElem!_pos _ j hj];exact hx)
 exact this
theorem keepC_len (C:Nat) (o n:Array Int) (key:Int):(keepC C o n key).length≤6:=by
 have h1:(ascA (ringsL C o n key).flatten.toArray).size≤(ringsL C o n key).flatten.length:=ascA_size _
 exact Nat.le_trans (by unfold keepC;rw [Array.length_toList];exact h1) (rings_flat C o n key)
theorem keepC_byte {C:Nat} {o n:Array Int} {key:Int} (hbo:∀ x∈o.toList,0≤x∧x<256) (hbn:∀ x∈n.toList,0≤x∧x<256):∀ x∈keepC C o n key,0≤x∧x<256:=fun x hx=>by
 rw [keepC_mem] at hx
 unfold ringsL at hx
 split at hx
 ·simp only [List.flatten_cons,List.flatten_nil,List.append_nil,List.mem_append] at hx
  rcases hx with h | h
  ·exact hbn x (ofL_sub h)
  ·exact hbo x (ofL_sub h)
 ·simp only [List.flatten_cons,List.flatten_nil,List.append_nil] at hx
  exact hbn x (ofL_sub hx)
theorem ckeepers_ok (C:Nat) (po pn:Option Addr) (no nn co cn:Nat) (o n:Array Int) (key:Int) (w:World) (hno:no≤100) (hnn:nn≤100) (ho:InB po no o w) (hn:InB pn nn n w) (hbo:∀ x∈o.toList,0≤x∧x<256) (hbn:∀ x∈n.toList,0≤x∧x<256) :
  Calls Tryz.prog 67 #[.agg #[.int .u64 C,.slice po no co,.slice pn nn cn],.int .u8 key] w (BytRet (keepC C o n key) w):=by
 have hos:=ho.1
 have hns:=hn.1
 obtain ⟨F,hF⟩:∃ F,F=keepC C o n key:=⟨_,rfl⟩
 rw [←hF]
 refine X.begin (rg:=[]) (N:=[]) (ss:=[.agg [.int .u64 (.nat C),.slv po no co,.slv pn nn cn],.int .u8 (.v key)]) Tryz.func67 rfl B67_ok rfl rfl Sat.std0 ?_
 refine X.go T67_ok 400 _ rfl Tryz.results67 ?_
 conv=>arg 2;cbv
 refine X.call rfl rfl rfl rfl Tryz.call68 (fun N w1 args hN hS ha=>?_)
 have ha:args=[.agg #[.int .u64 C,.slice po no co,.slice pn nn cn],.int .u8 key]:=(Option.some.inj ha).symm
 rw [ha]
 refine (rings_ok C po pn no nn co cn o n key w1 (by omega) (by omega) (ho.stays hS.chg.none) (hn.stays hS.chg.none) hbo hbn).mono fun e w2 ⟨b,y,c,he,hfr,hcell,hch⟩=>?_
 obtain ⟨hl2,hl3⟩:=rings_len (C:=C) (key:=key) (show o.size≤100 by omega) (show n.size≤100 by omega)
 have hfl:=rings_flat C o n key
 obtain ⟨ls,hls⟩:∃ l,l=ringsL C o n key:=⟨_,rfl⟩
 obtain ⟨m,hm⟩:∃ m,m=ls.length:=⟨_,rfl⟩
 have hFa:F=(ascA ls.flatten.toArray).toList:=by rw [hF,hls];rfl
 rw [←hls] at hl2 hl3 he hcell hfl
 rw [←hm] at hl2 hl3 he hcell
 refine ⟨_,he,Goes.newMem hN hS hch (r:=.slv (some ⟨b,y,none⟩) m c) rfl rfl (fun hold hnew=>?_)⟩
 obtain ⟨im,him⟩:∃ im,im=imNew (elsewhere [] [] w) w1 w2:=⟨_,rfl⟩
 have himw:∀ k o,w.heap.size≤k→w2.heap.size≤k→im k o=none:=fun k o h1 h2=>by
  rw [him]
  unfold imNew
  rw [els_new h1]
  simp only
  split
  ·simp [World.cell?,Array.getElem?_eq_none h2]
  ·rfl
 have hcell:∀ j,j<m→∃ p c,im b (y+j)=some (.slice p ls[j]!.length c)∧BytNew ls[j]! 0 im p c:=fun j hj=>by
  obtain ⟨p,c,h1,h2⟩:=hcell j hj
  exact ⟨p,c,by rw [him];exact hnew _ _ _ hfr h1,h2.mono (Nat.zero_le _) fun k o v hk hv=>by rw [him];exact hnew _ _ _ hk hv⟩
 obtain ⟨pz,hpz⟩:∃ p,p=some (Addr.mk b y none):=⟨_,rfl⟩
 show X (mkE Tryz.prog Tryz.f67 (BytRet F w) w (InR [] []) (imNew (elsewhere [] [] w) w1 w2) (fun _ _=>False) (fun _=>True) [] B67) _ _
 rw [←him,←hpz]
 clear him hold hnew hch he ha hS hN himw
 refine X.less [8] ?_
 refine X.noRegs [(8,.val (.slv pz m c))] rfl (fun N hN=>⟨rfl,fun _ h=>h,trivial⟩) ?_
 refine X.call rfl rfl rfl rfl Tryz.call97 (fun N w3 args hN hS ha=>?_)
 have ha:args=[.slice pz m c]:=(Option.some.inj ha).symm
 rw [ha,hpz]
 refine (concat_ok ls b y m c w3 hm hfl (by omega) (fun j hj=>by
  obtain ⟨p,c,h1,h2⟩:=hcell j hj
  exact ⟨p,c,hS.imm _ _ _ h1,h2.mono (Nat.le_refl _) fun k o v _ hv=>hS.imm _ _ _ hv⟩)).mono fun e w4 ⟨p2,c2,he,hc2,hr,hch⟩=>⟨_,he,?_⟩
 obtain ⟨out,hout⟩:∃ l,l=ls.flatten:=⟨_,rfl⟩
 obtain ⟨ll,hll⟩:∃ q,q=out.length:=⟨_,rfl⟩
 have hll6:ll≤6:=by rw [hll,hout];exact hfl
 rw [←hout] at hr hc2
 rw [←hout,←hll]
 rw [←hout] at hFa
 rcases hr with ⟨h1,h2,h3⟩ | ⟨hne,b2,o2,h1,h2,h3⟩
 ·subst h2 h3
  have hl0:ll=0:=by rw [hll,h1];rfl
  subst hl0
  have hFn:F=[]:=by
   have h:=ascA_size out.toArray
   rw [h1] at h
   rw [hFa,h1]
   exact List.eq_nil_of_length_eq_zero (by simpa using h)
  refine Goes.same hN hS hch (r:=.raw (.slice none 0 0)) rfl rfl ?_
  refine X.go T67_ok 400 _ rfl Tryz.results67 ?_
  conv=>arg 2;cbv
  refine X.call rfl rfl rfl rfl Tryz.call98 (fun N w5 args hN hS ha=>?_)
  have ha:args=[.slice none 0 0]:=(Option.some.inj ha).symm
  rw [ha]
  refine (sort8_nil w5).mono fun e w6 ⟨he,hc⟩=>⟨_,he,Goes.same hN hS hc (r:=.tup []) rfl rfl ?_⟩
  refine X.goC FALL_ok true T67_ok 4000 _ rfl Tryz.results67 ?_
  conv=>arg 2;cbv
  refine X.done T67_ok rfl (fun N w' v hN hS hv=>?_)
  simp [resV,SV.den,one?] at hv
  exact ⟨none,0,by rw [←hv,hFn];rfl,by rw [hFn];exact Nat.le_refl _,.inl ⟨hFn,rfl,rfl⟩,hS.chg.none⟩
 ·have hsz:out.toArray.size=ll:=by rw [hll];simp
  have hbw:w.heap.size≤b2:=Nat.le_trans hS.chg.size h2
  have hdw:∀ k o,arrD b2 o2 ll k o→w.heap.size≤k:=fun k o ⟨e1,_,_⟩=>by rw [e1];exact hbw
  have hdi:∀ k o,arrD b2 o2 ll k o→im k o=none:=fun k o ⟨e1,_,_⟩=>im_new hS (by rw [e1];exact h2)
  refine Goes.turn (r:=.slv p2 ll c2) (arrD b2 o2 ll) (fun w=>AtA w b2 o2 out.toArray) hN hS hch (fun _ _ h=>h.elim) (fun _ _ h=>h.elim) (by simp) (fun k o hk=>⟨.inr (by obtain ⟨e1,e2,e3⟩:=hk;rw [e1];exact h2),h3.there (by omega) hk⟩) (AtA.loc (by omega)) h3 rfl rfl ?_
  clear h3 hch he ha hS hN
  show X (mkE Tryz.prog Tryz.f67 (BytRet F w) w (InR [] []) im (arrD b2 o2 ll) (fun w=>AtA w b2 o2 out.toArray) [] B67) _ _
  refine X.go T67_ok 400 _ rfl Tryz.results67 ?_
  conv=>arg 2;cbv
  refine X.call rfl rfl rfl rfl Tryz.call98 (fun N w5 args hN hS ha=>?_)
  have ha:args=[.slice p2 ll c2]:=(Option.some.inj ha).symm
  rw [ha,h1]
  refine (sort8_ok b2 o2 ll c2 out.toArray w5 hS.res hsz (by omega)).mono fun e w6 ⟨S,⟨g1,g2⟩,he,hA1,hch⟩=>⟨_,he,?_⟩
  have hSr:=srtA_of hsz g1 g2
  subst hSr
  have hsn:(srtA out.toArray).size=ll:=by rw [srtA_size,hsz]
  refine Goes.turn (r:=.tup []) (arrD b2 o2 ll) (fun w=>AtA w b2 o2 (srtA out.toArray)) hN hS hch (fun k o h=>.inl (hdw k o h)) hdi (by simp) (fun k o hk=>⟨.inl hk,hA1.there (by omega) hk⟩) (AtA.loc (by omega)) hA1 rfl rfl ?_
  clear hA1 hch he ha hS hN g1 g2
  show X (mkE Tryz.prog Tryz.f67 (BytRet F w) w (InR [] []) im (arrD b2 o2 ll) (fun w=>AtA w b2 o2 (srtA out.toArray)) [] B67) _ _
  refine X.go T67_ok 400 _ rfl Tryz.results67 ?_
  conv=>arg 2;cbv
  refine X.call rfl rfl rfl rfl Tryz.call99 (fun N w7 args hN hS ha=>?_)
  have ha:args=[.slice (some ⟨b2,o2,none⟩) ll c2]:=(Option.some.inj ha).symm
  rw [ha]
  have hAs:AtA w7 b2 o2 (srtA out.toArray):=hS.res
  refine (compact8_ok b2 o2 ll c2 (srtA out.toArray) w7 hAs hsn (by omega) (by omega)).mono fun e w8 ⟨he,hA1,hch⟩=>⟨_,he,?_⟩
  obtain ⟨a,ha⟩:∃ a,a=ascA out.toArray:=⟨_,rfl⟩
  rw [show (Go.Lib.compactUpTo (srtA out.toArray) ll).toArray=a by rw [ha,ascA,hsz]] at hA1
  obtain ⟨q,hq⟩:∃ q,q=a.size:=⟨_,rfl⟩
  rw [show (Go.Lib.compactUpTo (srtA out.toArray) ll).length=q by rw [hq,ha,ascA,hsz];simp]
  have hql:q≤ll:=by rw [hq,ha,←hsz];exact ascA_size _
  have hq0:0<q:=by rw [hq,ha];exact ascA_pos (by rw [hsz,hll];exact List.length_pos_iff.2 hne)
  refine Goes.turn (r:=.slv (some ⟨b2,o2,none⟩) q c2) (arrD b2 o2 ll) (fun w=>AtA w b2 o2 a) hN hS hch (fun k o h=>.inl (hdw k o h)) hdi (by simp) (fun k o hk=>⟨.inl hk,?_⟩) (AtA.loc (by omega)) hA1 rfl rfl ?_
  ·obtain ⟨rfl,k2,k3⟩:=hk
   have:=(hAs (o-o2) (by omega)).1
   rw [show o2+(o-o2)=o by omega] at this
   exact .inl (some_of_chg hch o (by rw [this];rfl))
  clear hA1 hch he hS hN hAs
  show X (mkE Tryz.prog Tryz.f67 (BytRet F w) w (InR [] []) im (arrD b2 o2 ll) (fun w=>AtA w b2 o2 a) [] B67) _ _
  refine X.go T67_ok 400 _ rfl Tryz.results67 ?_
  conv=>arg 2;cbv
  refine X.done T67_ok rfl (fun N w' v hN hS hv=>?_)
  simp only [resV,SV.den,Option.some.injEq] at hv
  have hFq:F=a.toList:=by rw [hFa,ha]
  have hFl:F.length=q:=by rw [hFq,hq];simp
  exact ⟨some ⟨b2,o2,none⟩,c2,by rw [←hv,hFl],by omega,.inr ⟨fun h=>by rw [h] at hFl;simp at hFl;omega,b2,o2,rfl,hbw,by rw [hFq];exact hS.res⟩,hS.chg.none⟩
def allC (C:Nat) (o n:Array Int) (key:Int) (s:Nat):Prop:=mayC C o n∧∀ x∈keepC C o n key,s.testBit x.toNat=true
theorem andNot_zero (a b:Nat) (ha:a<2 ^ 64) (hb:b<2 ^ 64):bitsI .andNot .u64 a b=0↔∀ i,i<64→a.testBit i=true→b.testBit i=true:=by
 show IntKind.u64.wrap (((BitVec.ofInt 64 (a:Int) &&& ~~~ BitVec.ofInt 64 (b:Int)).toNat:Nat):Int)=0↔_
 have e1:(BitVec.ofInt 64 (a:Int))=BitVec.ofNat 64 a:=by simp
 have e2:(BitVec.ofInt 64 (b:Int))=BitVec.ofNat 64 b:=by simp
 rw [e1,e2]
 obtain ⟨v,hv⟩:∃ v,v=(BitVec.ofNat 64 a &&& ~~~ BitVec.ofNat 64 b):=⟨_,rfl⟩
 rw [←hv,wrapU64 _ v.isLt]
 have h0:((v.toNat:Nat):Int)=0↔v=0#64:=by
  rw [←BitVec.toNat_inj]
  simp
 rw [h0]
 constructor
 ·intro h i hi h1
  have:=congrArg (fun v:BitVec 64=>v.getLsbD i) (hv.symm.trans h)
  simp only [BitVec.getLsbD_and,BitVec.getLsbD_not,BitVec.getLsbD_ofNat,hi,decide_true,Bool.true_and,BitVec.getLsbD_zero,h1] at this
  simpa using this
 ·intro h
  rw [hv]
  refine BitVec.eq_of_getLsbD_eq fun i hi=>?_
  have:=h i hi
  simp only [BitVec.getLsbD_and,BitVec.getLsbD_not,BitVec.getLsbD_ofNat,hi,decide_true,Bool.true_and,BitVec.getLsbD_zero]
  cases ha':a.testBit i with
  | false=>simp
  | true=>simp [this ha']
theorem all_law {C:Nat} {o n:Array Int} {key:Int} {s:Nat} (hs:s<2 ^ 64) (h:mayC C o n) (hbo:∀ x∈o.toList,0≤x∧x<256) (hbn:∀ x∈n.toList,0≤x∧x<256):bitsI .andNot .u64 (setN (keepC C o n key):Nat) s=0↔allC C o n key s:=by
 have hk:=keepC_64 (key:=key) h hbo hbn
 rw [andNot_zero (setN (keepC C o n key)) s (by unfold setN;exact setN_lt _ 0 (by decide)) hs]
 constructor
 ·intro h1
  refine ⟨h,fun x hx=>?_⟩
  have:=hk x hx
  refine h1 x.toNat (by omega) ?_
  unfold setN
  rw [setN_bit (by omega) _ 0 fun y hy=>(hk y hy).1]
  simp [Int.toNat_of_nonneg this.1,hx]
 ·rintro ⟨_,h1⟩ i hi h2
  unfold setN at h2
  rw [setN_bit hi _ 0 fun y hy=>(hk y hy).1] at h2
  simp at h2
  have:=h1 _ h2
  simpa using this
theorem all_ok (C s:Nat) (po pn:Option Addr) (no nn co cn:Nat) (o n:Array Int) (key:Int) (w:World) (hno:no≤100) (hnn:nn≤100) (hs:s<2 ^ 64) (ho:InB po no o w) (hn:InB pn nn n w) (hbo:∀ x∈o.toList,0≤x∧x<256) (hbn:∀ x∈n.toList,0≤x∧x<256) :
  Calls Tryz.prog 39 #[.agg #[.int .u64 C,.slice po no co,.slice pn nn cn],.int .u8 key,.int .u64 s] w fun e w'=>e=.returned (.bool (B (allC C o n key s)))∧Chg (fun _ _=>False) w w':=by
 obtain ⟨Q,hQ⟩:∃ Q:Ending→World→Prop,Q=fun e w'=>e=.returned (.bool (B (allC C o n key s)))∧Chg (fun _ _=>False) w w':=⟨_,rfl⟩
 rw [←hQ]
 refine X.begin (rg:=[]) (N:=[]) (ss:=[.agg [.int .u64 (.nat C),.slv po no co,.slv pn nn cn],.int .u8 (.v key),.int .u64 (.nat s)]) Tryz.func39 rfl B39_ok rfl rfl Sat.std0 ?_
 by_cases hmay:mayC C o n
 ·skip
  refine X.goP ([(8,.bool (.lit true))]) T39_ok 10 _ rfl Tryz.results39 (fun pr fin hpr hfin=>?_)
  conv=>cbv
  refine ⟨hpr _ (.of Tryz.call32 [.agg #[.int .u64 C,.slice po no co,.slice pn nn cn]] (.bool true) (fun _=>rfl) (fun _=>rfl) fun _ w1 him=>by rw [←B_pos hmay];exact cmay_ok C po pn no nn co cn o n w1 (by omega) (by omega) (ho.im him) (hn.im him) hbo hbn),hfin _ _ ?_⟩
  refine X.go T39_ok 400 _ rfl Tryz.results39 ?_
  conv=>arg 2;cbv
  refine X.callG rfl rfl rfl rfl Tryz.call67 (fun N w1 args hN hS ha=>?_)
  have ha:args=[.agg #[.int .u64 C,.slice po no co,.slice pn nn cn],.int .u8 key]:=(Option.some.inj ha).symm
  rw [ha]
  refine (ckeepers_ok C po pn no nn co cn o n key w1 hno hnn (ho.stays hS.chg.none) (hn.stays hS.chg.none) hbo hbn).mono fun e w2 hr=>?_
  obtain ⟨p1,c1,he,hb1,hch⟩:=hr.new
  have hk6:=keepC_len C o n key
  have hkb:=keepC_byte (C:=C) (key:=key) hbo hbn
  have hlaw:=all_law (key:=key) hs hmay hbo hbn
  obtain ⟨l1,hl1⟩:∃ l,l=keepC C o n key:=⟨_,rfl⟩
  obtain ⟨q1,hq1⟩:∃ q,q=l1.length:=⟨_,rfl⟩
  rw [←hl1] at hb1 he hk6 hkb hlaw
  rw [←hq1] at he
  refine ⟨_,he,Goes.newMem hN hS hch (r:=.slv p1 q1 c1) rfl rfl (fun hold hnew=>?_)⟩
  obtain ⟨im,him⟩:∃ im,im=imNew (elsewhere [] [] w) w1 w2:=⟨_,rfl⟩
  have hb1:BytNew l1 0 im p1 c1:=hb1.mono (Nat.zero_le _) fun k o v hk hv=>by rw [him];exact hnew _ _ _ hk hv
  show X (mkE Tryz.prog Tryz.f39 Q w (InR [] []) (imNew (elsewhere [] [] w) w1 w2) (fun _ _=>False) (fun _=>True) [] B39) _ _
  rw [←him]
  clear him hold hnew hr hch he ha hS hN
  obtain ⟨sl,hsl⟩:∃ t,t=setN l1:=⟨_,rfl⟩
  refine X.goP ([(13,.int .u64 (.nat sl))]) T39_ok 400 _ rfl Tryz.results39 (fun pr fin hpr hfin=>?_)
  conv=>cbv
  refine ⟨hpr _ (.of Tryz.call63 [.slice p1 q1 c1] (.int .u64 sl) (fun _=>rfl) (fun _=>rfl) fun _ w1 him=>by rw [hsl,hq1];exact set_ok p1 l1.length c1 l1.toArray w1 (by omega) (hb1.inB him) (fun x hx=>hkb x (by simpa using hx))),hfin _ _ ?_⟩
  refine X.done T39_ok rfl (fun N w' v hN hS hv=>?_)
  rw [hQ]
  refine ⟨fin_bool hv (den_of ?_),hS.chg.none⟩
  rw [B_iff,←hlaw,←hsl]
  simp [SB.T,SI.den]
 ·refine X.goP ([(8,.bool (.lit false))]) T39_ok 400 _ rfl Tryz.results39 (fun pr fin hpr hfin=>?_)
  conv=>cbv
  refine ⟨hpr _ (.of Tryz.call32 [.agg #[.int .u64 C,.slice po no co,.slice pn nn cn]] (.bool false) (fun _=>rfl) (fun _=>rfl) fun _ w1 him=>by rw [←B_neg hmay];exact cmay_ok C po pn no nn co cn o n w1 (by omega) (by omega) (ho.im him) (hn.im him) hbo hbn),hfin _ _ ?_⟩
  refine X.done T39_ok rfl (fun N w' v hN hS hv=>?_)
  rw [hQ]
  exact ⟨fin_bool hv (by rw [B_neg fun h=>hmay h.1];rfl),hS.chg.none⟩
theorem ofL_one (x key:Int):ofL #[x] key=[x]:=by
 have h1:ofL #[x] key≠[]:=ofL_pos (by simp)
 have h2:∀ y∈ofL #[x] key,y=x:=fun y hy=>by simpa using ofL_sub hy
 have h3:=ofL_lt #[x] key
 cases hl:ofL #[x] key with
 | nil=>exact absurd hl h1
 | cons a t =>
  rw [hl] at h2 h3
  have ha:=h2 a (by simp)
  cases t with
  | nil=>rw [ha]
  | cons b t =>
   have hb:=h2 b (by simp)
   have:=(List.pairwise_cons.1 h3).1 b (by simp)
   omega
theorem mayC_one:mayC 0 #[] #[3]:=⟨by simp,fun i hi=>by
 have:i=0:=by simp at hi;omega
 subst this
 exact ⟨by decide,fun h=>absurd h (by decide)⟩,by simp⟩
theorem keepC_one:keepC 0 #[] #[3] 1=[3]:=by
 have h:ringsL 0 #[] #[3] 1=[[3]]:=by rw [ringsL,if_neg (by decide),ofL_one]
 rw [keepC,h]
 refine lt_eq (ascA_lt _) (by simp) fun y=>?_
 rw [ascA_iff]
 simp
theorem quoC_8:quoC 0 #[] #[3] 1 8:=⟨mayC_one,by rw [ofL_one];unfold maj;decide,fun h=>absurd h (by decide)⟩
theorem nat_wf {z:Int} (h:(Lit.int .u64 z).wf=true):∃ n:Nat,z=n∧n<2 ^ 64:=by
 have h:(decide (0≤z)&&decide (z≤18446744073709551615))=true:=h
 simp only [Bool.and_eq_true,decide_eq_true_eq] at h
 exact ⟨z.toNat,by omega,by omega⟩
theorem none_ok (a b c:Int) (w:World):Calls Tryz.prog 33 #[.agg #[.int .u64 a,.int .u8 b,.int .u32 c]] w fun e w'=>e=.returned (.bool (decide (a=0∧b=0∧c=0)))∧Chg (fun _ _=>False) w w':=by
 refine X.begin (rg:=[]) (N:=[]) (ss:=[.agg [.int .u64 (.v a),.int .u8 (.v b),.int .u32 (.v c)]]) Tryz.func33 rfl B33_ok rfl rfl Sat.std0 ?_
 refine X.go T33_ok 400 _ rfl Tryz.results33 ?_
 conv=>arg 2;cbv
 refine X.done T33_ok rfl (fun N w' v hN hS hv=>⟨fin_bool hv ?_,hS.chg.mono fun k o _ h=>inR_nil h⟩)
 simp only [SB.den,SI.den]
 by_cases h1:a=0<;>by_cases h2:b=0<;>by_cases h3:c=0<;>simp [h1,h2,h3]
theorem index8_ok (p:Option Addr) (n c:Nat) (d:Array Int) (z:Int) (w:World) (hle:n≤100000) (hA:InB p n d w):Calls Tryz.prog 96 #[.slice p n c,.int .u8 z] w fun e w'=>(∃ r:Int,e=.returned (.int .i64 r)∧(0≤r↔z∈d.toList))∧Chg (fun _ _=>False) w w':=by
 have hn:=hA.1
 obtain ⟨Q,hQ⟩:∃ Q:Ending→World→Prop,Q=fun e w'=>(∃ r:Int,e=.returned (.int .i64 r)∧(0≤r↔z∈d.toList))∧Chg (fun _ _=>False) w w':=⟨_,rfl⟩
 rw [←hQ]
 refine X.begin (rg:=[]) (N:=[]) (ss:=[.slv p n c,.int .u8 (.v z)]) Tryz.func96 rfl B96_ok rfl rfl Sat.std0 ?_
 refine X.go T96_ok 400 _ rfl Tryz.results96 ?_
 conv=>arg 2;cbv
 refine X.loop (fun _:{i:Nat // i≤n∧¬z∈d.toList.take i}=>mkE Tryz.prog Tryz.f96 Q w (InR [] []) (elsewhere [] [] w) (fun _ _=>False) (fun _=>True) [] B96)
  (fun g=>⟨[(0,.val (.slv p n c)),(1,.val (.int .u8 (.v z))),(7,.val (.int .i64 (.nat n))),(8,.val (.int .i64 (.nat g.1)))],[]⟩) (fun g=>n-g.1) (fun _=>⟨rfl,rfl,rfl,rfl⟩) (fun N ac w' hN hf hS=>⟨⟨0,Nat.zero_le _,by simp⟩,?_⟩) (fun g q hq=>?_)
 ·exact At.again hf hS (by repeat first | exact trivial | refine ⟨⟨_,rfl,.inl ⟨rfl,rfl⟩⟩,?_⟩ | refine ⟨⟨_,rfl,.inr ⟨_,rfl,rfl⟩⟩,?_⟩ | refine ⟨⟨_,rfl,.inr ⟨_,rfl,by simp (disch:=omega) [SV.den,SI.den,wrapU,wrapD]<;>omega⟩⟩,?_⟩) trivial
 obtain ⟨i,hi,hex⟩:=g
 show X (mkE Tryz.prog Tryz.f96 Q w (InR [] []) (elsewhere [] [] w) (fun _ _=>False) (fun _=>True) [] B96) _ ⟨[(0,.val (.slv p n c)),(1,.val (.int .u8 (.v z))),(7,.val (.int .i64 (.nat n))),(8,.val (.int .i64 (.nat i)))],[]⟩
 refine X.go T96_ok 400 _ rfl Tryz.results96 ?_
 conv=>arg 2;cbv
 refine X.cond rfl (fun hlt=>?_) (fun hge=>?_)
 ·simp only [SB.T,SI.den] at hlt
  have hlt:i<n:=by omega
  obtain ⟨b,y,hp,hd⟩:=hA.2 (by omega)
  obtain ⟨x,hx⟩:∃ x,x=d[i]! := ⟨_,rfl⟩
  have hxl:d.toList[i]! = x:=by rw [hx,getElem!_pos d i (by omega),getElem!_pos d.toList i (by simp;omega)];simp
  obtain ⟨oi,hoi⟩:∃ o,o=y+i:=⟨_,rfl⟩
  have hix:elsewhere [] [] w b (oi+0)=some (.int .u8 x):=by rw [Nat.add_zero,els_old,hoi,hx];exact hd i (by omega)
  have hxm:x∈d.toList:=by rw [←hxl,getElem!_pos d.toList i (by simp;omega)];exact List.getElem_mem _
  have hsn:=take_snoc (l:=d.toList) (i:=i) (by simp;omega)
  rw [hxl] at hsn
  refine X.goP ([(14,.ext b oi 0),(15,.int .u8 (.v x))]) T96_ok 400 _ rfl Tryz.results96 (fun pr fin hpr hfin=>?_)
  conv=>cbv
  refine ⟨hpr _ (ValOk.im1 rfl Tryz.isAgg5 (fun _=>rfl) fun _=>hix),hpr _ (ValOk.at (z:=i) rfl rfl (fun _=>rfl) Tryz.underlying23 Tryz.sizeOf5 (fun _=>hlt) hp (by omega)),hfin _ _ ?_⟩
  refine X.cond rfl (fun he=>?_) (fun he=>?_)
  ·simp only [SB.T,SI.den] at he
   have hm:z∈d.toList:=by rw [he];exact hxm
   refine X.go T96_ok 400 _ rfl Tryz.results96 ?_
   conv=>arg 2;cbv
   refine X.done T96_ok rfl (fun N w' v hN hS hv=>?_)
   rw [hQ]
   exact ⟨⟨(i:Int),by rw [←(Option.some.inj hv:_=v)];rfl,by simp [hm]⟩,hS.chg.none⟩
  ·simp only [SB.F,SI.den] at he
   refine X.go T96_ok 400 _ rfl Tryz.results96 ?_
   conv=>arg 2;cbv
   refine X.back (fun N ac w' hN hf hS=>hq ⟨i+1,hlt,by rw [hsn];simp [hex,he]⟩ ac w' (by simp only;omega) ?_)
   show At (mkE Tryz.prog Tryz.f96 Q w (InR [] []) (elsewhere [] [] w) (fun _ _=>False) (fun _=>True) [] B96) ⟨[(0,.val (.slv p n c)),(1,.val (.int .u8 (.v z))),(7,.val (.int .i64 (.nat n))),(8,.val (.int .i64 (.nat (i+1))))],[]⟩ ac w'
   exact At.again hf hS (by repeat first | exact trivial | refine ⟨⟨_,rfl,.inl ⟨rfl,rfl⟩⟩,?_⟩ | refine ⟨⟨_,rfl,.inr ⟨_,rfl,rfl⟩⟩,?_⟩ | refine ⟨⟨_,rfl,.inr ⟨_,rfl,by simp (disch:=omega) [SV.den,SI.den,wrapU,wrapD]<;>omega⟩⟩,?_⟩) trivial
 ·simp only [SB.F,SI.den] at hge
  have hm:¬z∈d.toList:=by rw [List.take_of_length_le (by simp;omega)] at hex;exact hex
  refine X.go T96_ok 400 _ rfl Tryz.results96 ?_
  conv=>arg 2;cbv
  refine X.done T96_ok rfl (fun N w' v hN hS hv=>?_)
  rw [hQ]
  exact ⟨⟨-1,by rw [←(Option.some.inj hv:_=v)];rfl,by simp [hm]⟩,hS.chg.none⟩
theorem contains8_ok (p:Option Addr) (n c:Nat) (d:Array Int) (z:Int) (w:World) (hle:n≤100000) (hA:InB p n d w):Calls Tryz.prog 66 #[.slice p n c,.int .u8 z] w fun e w'=>e=.returned (.bool (decide (z∈d.toList)))∧Chg (fun _ _=>False) w w':=by
 refine X.begin (rg:=[]) (N:=[]) (ss:=[.slv p n c,.int .u8 (.v z)]) Tryz.func66 rfl B66_ok rfl rfl Sat.std0 ?_
 refine X.go T66_ok 400 _ rfl Tryz.results66 ?_
 conv=>arg 2;cbv
 refine X.call rfl rfl rfl rfl Tryz.call96 (fun N w1 args hN hS ha=>?_)
 have ha:args=[.slice p n c,.int .u8 z]:=(Option.some.inj ha).symm
 rw [ha]
 refine (index8_ok p n c d z w1 hle (hA.stays hS.chg.none)).mono fun e w2 hR=>?_
 obtain ⟨⟨r,he,hr⟩,hch⟩:=hR
 refine ⟨_,he,Goes.same hN hS hch (r:=.int .i64 (.v r)) rfl rfl ?_⟩
 refine X.go T66_ok 400 _ rfl Tryz.results66 ?_
 conv=>arg 2;cbv
 refine X.done T66_ok rfl (fun N w' v hN hS hv=>⟨fin_bool hv ?_,hS.chg.mono fun k o _ h=>inR_nil h⟩)
 simp only [SB.den,SI.den]
 exact (decide_eq_decide.2 hr)
def regZ:List SV:=ti34.zero
def regZV:Value:=.agg #[.int .u8 0,.int .u64 0,.int .i64 0,.slice none 0 0,.slice none 0 0,.slice none 0 0,.int .u64 0,.slice none 0 0]
set_option maxRecDepth 1000000 in
theorem mayZ_ok (w:World):Calls Tryz.prog 49 #[regZV] w fun e w'=>e=.returned (.bool true)∧Chg (fun _ _=>False) w w' :=
 told_run FALL_ok F49_ok 400 [.agg regZ] rfl rfl (l:=[.bool (.lit true)]) (fun _=>rfl) (by kernel_rfl) w
set_option maxRecDepth 1000000 in
theorem cloneZ_ok (w:World):Calls Tryz.prog 42 #[regZV] w fun e w'=>e=.returned regZV∧Chg (fun _ _=>False) w w' :=
 told_run FALL_ok F42_ok 400 [.agg regZ] rfl rfl (l:=[.agg regZ]) (fun _=>rfl) (by kernel_rfl) w
def balZ:List SV:=[.int .u64 (.lit 0),.int .u8 (.lit 0),.int .u32 (.lit 0)]
def balZV:Value:=.agg #[.int .u64 0,.int .u8 0,.int .u32 0]
set_option maxRecDepth 1000000 in
theorem noneZ_ok (w:World):Calls Tryz.prog 33 #[balZV] w fun e w'=>e=.returned (.bool true)∧Chg (fun _ _=>False) w w' :=
 told_run FALL_ok F33_ok 400 [.agg balZ] rfl rfl (l:=[.bool (.lit true)]) (fun _=>rfl) (by kernel_rfl) w
set_option maxRecDepth 1000000 in
theorem nextZ_ok (a b c:Int) (w:World):Calls Tryz.prog 78 #[.agg #[.int .u64 a,.int .u8 b,.int .u32 c],balZV] w fun e w'=>e=.returned (.bool true)∧Chg (fun _ _=>False) w w' :=
 told_run FALL_ok F78_ok 400 [.agg [.int .u64 (.v a),.int .u8 (.v b),.int .u32 (.v c)],.agg balZ] rfl rfl (l:=[.bool (.lit true)]) (fun _=>rfl) (by kernel_rfl) w
def msgS (kind fr to key:SI) (C:Nat) (b1 b2 b3:Int) (ok:Bool):SV:=.agg [.int .u8 kind,.int .u8 fr,.int .u8 to,.int .u8 key,.int .u64 (.nat C),.int .u64 (.v b1),.int .u8 (.v b2),.int .u32 (.v b3),.bool (.lit ok),.int .u64 (.lit 0),.int .u8 (.lit 0),.int .u32 (.lit 0),
 .int .u8 (.lit 0),.int .u64 (.lit 0),.int .i64 (.lit 0),.raw (.slice none 0 0),.raw (.slice none 0 0),.raw (.slice none 0 0),.int .u64 (.lit 0),.raw (.slice none 0 0),.int .u64 (.lit 0),.int .u8 (.lit 0),.int .u32 (.lit 0),.int .u64 (.lit 0)]
def msgV (kind fr to key:Int) (C:Nat) (b1 b2 b3:Int) (ok:Bool):Value:=.agg #[.int .u8 kind,.int .u8 fr,.int .u8 to,.int .u8 key,.int .u64 C,.int .u64 b1,.int .u8 b2,.int .u32 b3,.bool ok,.int .u64 0,.int .u8 0,.int .u32 0,
 .int .u8 0,.int .u64 0,.int .i64 0,.slice none 0 0,.slice none 0 0,.slice none 0 0,.int .u64 0,.slice none 0 0,.int .u64 0,.int .u8 0,.int .u32 0,.int .u64 0]
theorem may3_ok (key:Int) (C:Nat) (b1 b2 b3:Int) (w:World) (hk:key<16) (hb2:b2<64) (hb:¬(b1=0∧b2=0∧b3=0)):Calls Tryz.prog 43 #[msgV 3 b2 0 key C b1 b2 b3 false] w fun e w'=>e=.returned (.bool true)∧Chg (fun _ _=>False) w w':=by
 refine X.begin (rg:=[]) (N:=[]) (ss:=[msgS (.lit 3) (.v b2) (.lit 0) (.v key) C b1 b2 b3 false]) Tryz.func43 rfl B43_ok rfl rfl Sat.std0 ?_
 refine X.goX ([(19,.bool (.lit false))]) ([]) T43_ok 400 _ rfl Tryz.results43 (fun pr pe fin hpr hpe hfin=>?_)
 conv=>cbv
 refine ⟨hpr _ (.of Tryz.call33 [.agg #[.int .u64 b1,.int .u8 b2,.int .u32 b3]] (.bool false) (fun _=>rfl) (fun _=>rfl) fun _ w1 him=>by rw [←decide_eq_false hb];exact none_ok b1 b2 b3 w1),hfin _ _ ?_⟩
 clear hpr hpe hfin
 refine X.cond rfl (fun hT=>?_) (fun hF=>?_)
 ·simp only [SB.T,SB.F,SI.den] at hT
  omega
 ·refine X.goX ([(107,.bool (.lit true)),(112,.bool (.lit true)),(119,.bool (.lit true))]) ([]) T43_ok 400 _ rfl Tryz.results43 (fun pr pe fin hpr hpe hfin=>?_)
  conv=>cbv
  refine ⟨hpr _ (.of Tryz.call33 [balZV] (.bool true) (fun _=>rfl) (fun _=>rfl) fun _ w1 him=>noneZ_ok w1),hpr _ (.of Tryz.call49 [regZV] (.bool true) (fun _=>rfl) (fun _=>rfl) fun _ w1 him=>mayZ_ok w1),
   hpr _ (.of Tryz.call78 [.agg #[.int .u64 b1,.int .u8 b2,.int .u32 b3],balZV] (.bool true) (fun _=>rfl) (fun _=>rfl) fun _ w1 him=>nextZ_ok b1 b2 b3 w1),hfin _ _ ?_⟩
  refine X.done T43_ok rfl (fun N w' v hN hS hv=>⟨fin_bool hv ?_,hS.chg.mono fun k o _ h=>inR_nil h⟩)
  rfl
theorem keep_ne {C:Nat} {o n:Array Int} {key:Int} (h:mayC C o n):keepC C o n key≠[]:=fun e=>by
 have h1:ofL n key≠[]:=ofL_pos h.1
 obtain ⟨x,l,hx⟩:=List.exists_cons_of_ne_nil h1
 have h2:x∈keepC C o n key:=keepC_mem.2 (by
  have hm:x∈ofL n key:=by rw [hx];exact List.mem_cons_self
  unfold ringsL
  split<;>simp [hm])
 rw [e] at h2
 cases h2
end Go.Proofs.YthaffebapmkppaaGreat
namespace Go.Eng
open Go
theorem vk_binT {E:Env} {N0:Nums} {rg:List Rg} {f:Fr} {g:GK} {T:Tab} (hT:TabOk E.P T) {op:BinOp} {t ty:TypeId} {x y:Operand} {sx sy r r0:SV} (hx:evK f g x=some sx) (hy:evK f g y=some sy) (h:binV T op t sx sy=some r0) (hd:g.T→∀ N v,r0.den N=some v→r.den N=some v):ValOk E N0 rg f g (.binOp op t x y ty) r:=by
 intro ht N ρ o w hN0 hop hρ hV
 have h1:=hρ _ _ hx
 have h2:=hρ _ _ hy
 obtain ⟨v,hv,_⟩:=binV_sound (w:=w) hT.ok h1 h2 h x y
 refine ⟨v,hd ht N v hv,fun w' _=>?_⟩
 obtain ⟨v',hv',hrun⟩:=binV_sound (w:=w') hT.ok h1 h2 h x y
 rw [hv] at hv';cases hv'
 have h3:((do eqGuard op t x y (ρ x) (ρ y);binOp op t (ρ x) (ρ y)):Sem Value).run E.P w'=.ok v w':=hrun
 simp only [execOp,hop]
 rw [Sem.run_bind,h3]
 rfl
theorem vk_eqI {E:Env} {N0:Nums} {rg:List Rg} {f:Fr} {g:GK} {t ty:TypeId} {x y:Operand} {kd:IntKind} {s1 s2:SI} (hx:evK f g x=some (.int kd s1)) (hy:evK f g y=some (.int kd s2)) (h:s1.den=s2.den):ValOk E N0 rg f g (.binOp .eql t x y ty) (.bool (.lit true)) :=
 vk_bin hx hy rfl fun ht N v hv=>by
  rw [←hv]
  simp [SV.den,SB.den,SI.den,eqI,h]
end Go.Eng
namespace Go.Proofs.YthaffebapmkppaaGreat
open Go Go.Eng Go.Sort
def InM (p:Option Addr) (n:Nat) (l:List Int) (M:Mem):Prop:=n=l.length∧(0<n→∃ b y,p=some ⟨b,y,none⟩∧∀ j,j<n→M b (y+j)=some (.int .u8 l[j]!))
theorem InM.nil (p:Option Addr) (M:Mem):InM p 0 [] M:=⟨rfl,fun h=>absurd h (Nat.lt_irrefl 0)⟩
theorem InM.inB {p:Option Addr} {n:Nat} {l:List Int} {M:Mem} (h:InM p n l M) {w:World} (hM:∀ k o v,M k o=some v→w.cell? ⟨k,o,none⟩=some v):InB p n l.toArray w:=⟨by simp [h.1],fun h0=>by
 obtain ⟨b,y,h1,h2⟩:=h.2 h0
 refine ⟨b,y,h1,fun j hj=>?_⟩
 have hj:j<n:=by have:=h.1;simpa [this] using hj
 rw [hM _ _ _ (h2 j hj)]
 simp [←h.1,hj]⟩
theorem InM.mono {p:Option Addr} {n:Nat} {l:List Int} {M M':Mem} (h:InM p n l M) (hM:∀ k o v,M k o=some v→M' k o=some v):InM p n l M':=⟨h.1,fun h0=>by
 obtain ⟨b,y,h1,h2⟩:=h.2 h0
 exact ⟨b,y,h1,fun j hj=>hM _ _ _ (h2 j hj)⟩⟩
theorem vk_strB {E:Env} {N0:Nums} {rg:List Rg} {f:Fr} {g:GK} {src e dst:TypeId} {x:Operand} {p:Option Addr} {n c:Nat} {l:List Int} (hx:evK f g x=some (.slv p n c)) (hn:l.length=n) (hs:E.P.underlying src=some (.slice e)) (he:E.P.underlying e=some (.int .u8)) (hd:E.P.underlying dst=some .string)
  (hl:0<n→∃ b y,p=some ⟨b,y,none⟩∧∀ j,j<n→E.im b (y+j)=some (.int .u8 l[j]!)):ValOk E N0 rg f g (.convert src dst x) (.raw (.string (strOfNums l))):=by
 rcases Nat.eq_zero_or_pos n with h0 | h0
 ·subst h0
  obtain rfl:l=[]:=List.eq_nil_of_length_eq_zero hn
  intro ht N ρ o w hN0 hop hρ hV
  have h1:=hρ _ _ hx
  simp only [SV.den,Option.some.injEq] at h1
  refine ⟨.string (strOfNums []),by simp [SV.den,one?],fun w' hV'=>?_⟩
  have:(convert src dst (.slice p 0 c)).run E.P w'=.ok (.string (strOfNums [])) w':=by
   cases p with
   | none=>exact run_convert_bytes_nil w' src e hs he 0 c dst hd
   | some a=>exact run_convert_bytes_back w' src dst e a c [] hs he hd (fun j hj=>absurd hj (Nat.not_lt_zero j))
  simp only [execOp,hop,←h1,this,Sem.run_bind,Result.andThen,Sem.run_pure]
 ·exact vk_str hx hn hs he hd (.inr (hl h0))
theorem same10_ok (C:Nat) (p1 p2 p3 p4:Option Addr) (n1 n2 n3 n4 c1 c2 c3 c4:Nat) (l1 l2:List Int) (w:World) (h1:InB p1 n1 l1.toArray w) (h2:InB p2 n2 l2.toArray w) (h3:InB p3 n3 l1.toArray w) (h4:InB p4 n4 l2.toArray w) :
  Calls Tryz.prog 47 #[.agg #[.int .u64 C,.slice p1 n1 c1,.slice p2 n2 c2],.agg #[.int .u64 C,.slice p3 n3 c3,.slice p4 n4 c4]] w fun e w'=>e=.returned (.bool true)∧Chg (fun _ _=>False) w w':=by
 have strOk:∀ (p:Option Addr) (n:Nat) (l:List Int),InB p n l.toArray w→l.length=n∧(0<n→∃ b y,p=some ⟨b,y,none⟩∧∀ j,j<n→elsewhere [] [] w b (y+j)=some (.int .u8 l[j]!)):=fun p n l h=>by
  have hn:l.length=n:=by have:=h.1;simpa using this
  refine ⟨hn,fun h0=>?_⟩
  obtain ⟨b,y,e1,e2⟩:=h.2 h0
  refine ⟨b,y,e1,fun j hj=>?_⟩
  rw [els_old,e2 j (by simpa [hn] using hj)]
  simp [hn,hj]
 obtain ⟨s1,hs1⟩:∃ s,s=strOfNums l1:=⟨_,rfl⟩
 obtain ⟨s2,hs2⟩:∃ s,s=strOfNums l2:=⟨_,rfl⟩
 refine X.begin (rg:=[]) (N:=[]) (ss:=[.agg [.int .u64 (.nat C),.slv p1 n1 c1,.slv p2 n2 c2],.agg [.int .u64 (.nat C),.slv p3 n3 c3,.slv p4 n4 c4]]) Tryz.func47 rfl B47_ok rfl rfl Sat.std0 ?_
 refine X.goP ([(13,.raw (.string s1)),(16,.raw (.string s1)),(17,.bool (.lit true)),(22,.raw (.string s2)),(25,.raw (.string s2)),(26,.bool (.lit true))]) T47_ok 400 _ rfl Tryz.results47 (fun pr fin hpr hfin=>?_)
 conv=>cbv
 refine ⟨hpr _ (vk_eqs rfl rfl rfl),?_,?_,hpr _ (vk_eqs rfl rfl rfl),?_,?_,hfin _ _ ?_⟩
 ·rw [hs2]
  exact hpr _ (vk_strB rfl (strOk p4 n4 l2 h4).1 Tryz.underlying23 Tryz.underlying5 Tryz.underlying9 (strOk p4 n4 l2 h4).2)
 ·rw [hs2]
  exact hpr _ (vk_strB rfl (strOk p2 n2 l2 h2).1 Tryz.underlying23 Tryz.underlying5 Tryz.underlying9 (strOk p2 n2 l2 h2).2)
 ·rw [hs1]
  exact hpr _ (vk_strB rfl (strOk p3 n3 l1 h3).1 Tryz.underlying23 Tryz.underlying5 Tryz.underlying9 (strOk p3 n3 l1 h3).2)
 ·rw [hs1]
  exact hpr _ (vk_strB rfl (strOk p1 n1 l1 h1).1 Tryz.underlying23 Tryz.underlying5 Tryz.underlying9 (strOk p1 n1 l1 h1).2)
 refine X.done T47_ok rfl (fun N w' v hN hS hv=>⟨fin_bool hv ?_,hS.chg.none⟩)
 simp [SB.den,SI.den]
theorem cloneF_ok (b y n cp:Nat) (l:List Int) (w:World) (hn:l.length=n) (h0:n≠0) (hle:n≤1000) (hA:∀ j,j<n→w.cell? ⟨b,y+j,none⟩=some (.int .u8 l[j]!)) :
  Calls Tryz.prog 34 #[.slice (some ⟨b,y,none⟩) n cp] w (FreshRet (bytL l) n 1 w):=by
 obtain ⟨cs,hcs⟩:∃ cs,cs=bytL l:=⟨_,rfl⟩
 have hlen:cs.length=n:=by rw [hcs,bytL_len,hn]
 rw [←hcs]
 refine X.begin (rg:=[]) (N:=[]) (ss:=[.slv (some ⟨b,y,none⟩) n cp]) Tryz.func34 rfl B34_ok rfl rfl Sat.std0 ?_
 refine X.addIm [(0,.val (.osl 0 0 n 1 (some cp)))] b y (cs:=cs) (by omega) (fun j x hj=>?_) (fun N hN=>?_) ?_
 ·rw [hcs] at hj
  have hjl:j<l.length:=by have:=(List.getElem?_eq_some_iff.1 hj).1;rwa [bytL_len] at this
  obtain rfl:x=.int .u8 (.v l[j]!):=by simpa [bytL,hjl] using hj.symm
  exact ⟨_,fun _=>rfl,by show elsewhere [] [] w b (y+j)=_;rw [els_old];exact hA j (by omega)⟩
 ·obtain rfl:N=[]:=List.eq_nil_of_length_eq_zero hN
  refine ⟨rfl,fun x h=>?_,trivial⟩
  simpa [SV.den,Num.cap] using h
 refine X.go T34_ok 16 _ rfl Tryz.results34 ?_
 conv=>arg 2;cbv
 apply X.opEq (T:=T34) T34_ok
 ·exact opE_append (te:=ti5) (new:=cs) (m:=n) rfl rfl rfl rfl rfl rfl rfl rfl (appSrc_row (g:=⟨false,cs,none⟩) rfl rfl rfl (by show cs.length=n*1;omega))
   (appV_new (te:=ti5) rfl h0 (appOk_ok (by decide) rfl (by show cs.length=n*1;omega) (by rw [hcs];exact bytL_one) (by show (2*(0+n)+256)*1≤_;omega) (by omega))) rfl
 refine X.go T34_ok 400 _ rfl Tryz.results34 ?_
 conv=>arg 2;cbv
 refine X.done T34_ok rfl (fun N w' v hN hS hv=>?_)
 exact freshRet_of hS (r:=2) rfl (by rw [hlen];omega) (List.prefix_refl _) (fun c hc N N' v h=>bytL_den (by rw [←hcs];exact hc) h) hv
section
variable {P:Program} {fn:Func} {Q:Ending→World→Prop} {w w':World} {im:Mem} {D:Nat→Nat→Prop} {Rr:World→Prop} {B:SchT} {N:Nums} {rg rg0:List Rg} {p1:Num} {g0 g1:Rg} {b y K n r:Nat} {cs cs':List SV} {v:Value}
end
theorem own_inM {P:Program} {fn:Func} {Q:Ending→World→Prop} {w w':World} {im:Mem} {D:Nat→Nat→Prop} {Rr:World→Prop} {N0 N:Nums} {B:SchT} {rg:List Rg} {r:Nat} {p:Num} {l:List Int} {M:Mem} {m:Nat} (hS:Sat (mkE P fn Q w (InR [] []) im D Rr N0 B).toEnv N rg w') (hr:rg[r]?=some ⟨true,bytL l,none⟩) (hp:N[r]?=some p) (hm:m=l.length)
  (hM:∀ k o v,w.heap.size≤k→w'.cell? ⟨k,o,none⟩=some v→M k o=some v):InM (some ⟨p.b,p.o,none⟩) m l M:=⟨hm,fun h0=>⟨p.b,p.o,rfl,fun j hj=>by
 have hx:=hS.ext r _ _ hr hp rfl
 simp only [bytL_len] at hx
 have hb:w.heap.size≤p.b:=by
  rcases hS.foot r _ _ hr hp rfl with h | h
  ·exact h
  ·exact absurd (h 0 (by omega)) inR_nil
 have hjl:j<l.length:=by omega
 obtain ⟨v,h1,h2⟩:=hS.cell r _ _ hr hp j (.int .u8 (.v l[j]!)) (by simp [bytL,hjl])
 simp only [SV.den,SI.den,Option.some.injEq] at h1
 rw [hM _ _ _ hb h2,←h1]⟩⟩
def rndZV:Value:=.agg #[.int .u8 0,.int .u64 0,.slice none 0 0,.slice none 0 0,.int .u64 0,.int .u8 0,.int .u32 0,.bool false,.int .u8 0,.int .u64 0,
 .int .u64 0,.int .u8 0,.int .u32 0,.int .u8 0,.int .u64 0,.int .i64 0,.slice none 0 0,.slice none 0 0,.slice none 0 0,.int .u64 0,.slice none 0 0,.int .u64 0,.int .u8 0,.int .u32 0,.int .u64 0]
def rndZS:List SV:=[.int .u8 (.lit 0),.int .u64 (.lit 0),.raw (.slice none 0 0),.raw (.slice none 0 0),.int .u64 (.lit 0),.int .u8 (.lit 0),.int .u32 (.lit 0),.bool (.lit false),.int .u8 (.lit 0),.int .u64 (.lit 0),
 .int .u64 (.lit 0),.int .u8 (.lit 0),.int .u32 (.lit 0),.int .u8 (.lit 0),.int .u64 (.lit 0),.int .i64 (.lit 0),.raw (.slice none 0 0),.raw (.slice none 0 0),.raw (.slice none 0 0),.int .u64 (.lit 0),.raw (.slice none 0 0),.int .u64 (.lit 0),.int .u8 (.lit 0),.int .u32 (.lit 0),.int .u64 (.lit 0)]
def rndAV (al:Bool) (key:Int) (C:Nat) (p1:Option Addr) (n1 c1:Nat) (p2:Option Addr) (n2 c2:Nat) (b1 b2 b3:Int) (ph:Int) (got:Nat):Value:=.agg #[.int .u8 key,.int .u64 C,.slice p1 n1 c1,.slice p2 n2 c2,.int .u64 b1,.int .u8 b2,.int .u32 b3,.bool al,.int .u8 ph,.int .u64 got,
 .int .u64 0,.int .u8 0,.int .u32 0,.int .u8 0,.int .u64 0,.int .i64 0,.slice none 0 0,.slice none 0 0,.slice none 0 0,.int .u64 0,.slice none 0 0,.int .u64 0,.int .u8 0,.int .u32 0,.int .u64 0]
def begP (C:Nat) (o n:Array Int) (key b1 b2 b3:Int):Prop:=mayC C o n∧key<16∧¬(b1=0∧b2=0∧b3=0)∧b2<64
def BegR (al:Bool) (C:Nat) (o n:Array Int) (key b1 b2 b3:Int) (ph:Int) (w:World):Ending→World→Prop:=fun e w' =>
 (begP C o n key b1 b2 b3∧(∃ p1 n1 c1 p2 n2 c2,e=.returned (.tuple #[rndAV al key C p1 n1 c1 p2 n2 c2 b1 b2 b3 ph 0,.int .i64 0])∧∀ M:Mem,(∀ k o v,w.heap.size≤k→w'.cell? ⟨k,o,none⟩=some v→M k o=some v)→InM p1 n1 o.toList M∧InM p2 n2 n.toList M) ∨
  ¬begP C o n key b1 b2 b3∧e=.returned (.tuple #[rndZV,.int .i64 1]))∧Chg (fun _ _=>False) w w'
theorem cloneE_ok (a:Addr) (cp:Nat) (w:World):Calls Tryz.prog 34 #[.slice (some a) 0 cp] w (RoR [] 0 w):=by
 refine X.begin (rg:=[]) (N:=[]) (ss:=[.slv (some a) 0 cp]) Tryz.func34 rfl B34_ok rfl rfl Sat.std0 ?_
 refine X.go T34_ok 400 _ rfl Tryz.results34 ?_
 conv=>arg 2;cbv
 refine X.eqNil false rfl rfl rfl rfl Tryz.underlying23 (fun N _ _=>⟨_,_,_,rfl,rfl⟩) rfl ?_
 refine X.go T34_ok 400 _ rfl Tryz.results34 ?_
 conv=>arg 2;cbv
 refine X.app0 T34_ok rfl rfl rfl rfl rfl rfl rfl rfl rfl rfl (by decide) rfl (by decide) rfl ?_
 refine X.go T34_ok 400 _ rfl Tryz.results34 ?_
 conv=>arg 2;cbv
 refine X.done T34_ok rfl (fun N w' v hN hS hv=>?_)
 obtain ⟨p,hp⟩:∃ p,N[0]?=some p:=⟨_,List.getElem?_eq_getElem (by rw [hS.len];simp)⟩
 simp only [resV,SV.den,hp,Num.cap,Option.some.injEq] at hv
 exact ⟨p.b,p.o+0,_,by rw [←hv],fun h=>absurd h (Nat.lt_irrefl 0),hS.lt 0 p hp,fun j c hj=>by simp at hj,hS.chg.none⟩
theorem clone_eff {E:Env} {N0:Nums} {rg:List Rg} {f:Fr} {po:Option Addr} {no co:Nat} {o:Array Int} {t:Nat} {cl:List SV} (hP:E.P=Tryz.prog) (hcl:cl=bytL o.toList) (hp:po≠none) (hle:no≤1000) (hno:o.size=no) (hA:0<no→∃ b y,po=some ⟨b,y,none⟩∧∀ w:World,(∀ k o v,E.im k o=some v→w.cell? ⟨k,o,none⟩=some v)→∀ j,j<no→w.cell? ⟨b,y+j,none⟩=some (.int .u8 o.toList[j]!)) (hev:ev f (.tmp t)=some (.slv po no co)) :
  EffOk E N0 rg f (.call { callee:=.value (.func 34),args:=#[.tmp t],argTypes:=#[23] }) (.osl rg.length 0 no 1 none) (rg++[⟨decide (no≠0),cl,none⟩]):=by
 by_cases h0:no=0
 ·subst h0
  have ho:o=#[]:=Array.size_eq_zero_iff.1 hno
  subst ho
  obtain rfl:cl=[]:=hcl
  refine EffOk.call (l:=[.slv po 0 co]) (by simp [evL,hev]) (by rw [hP];exact Tryz.call34) fun N w1 args hN hS ha=>?_
  simp only [SV.denL,SV.den,Option.some.injEq] at ha
  rw [←ha,hP]
  cases po with
  | none=>exact absurd rfl hp
  | some a =>
   refine (cloneE_ok a co w1).mono fun e w' hr=>?_
   obtain ⟨N',v,h1,h2,h3,h4⟩:=hr.sat Nat.one_pos hS
   exact ⟨v,h1,N',h2,h3,h4⟩
 ·rw [decide_eq_true h0]
  obtain ⟨b,y,rfl,hB⟩:=hA (by omega)
  refine EffOk.fresh (l:=[.slv (some ⟨b,y,none⟩) no co]) (by simp [evL,hev]) (by rw [hP];exact Tryz.call34) fun N w1 args hN hS ha=>?_
  simp only [SV.denL,SV.den,Option.some.injEq] at ha
  rw [←ha,hP,hcl]
  exact cloneF_ok b y no co o.toList w1 (by simp [hno]) h0 hle (hB w1 hS.imm)
def rndO (al:Bool) (key:Int) (C:Nat) (s1 s2:SV) (b1 b2 b3:Int) (ph:Int):List SV:=[.int .u8 (.v key),.int .u64 (.nat C),s1,s2,.int .u64 (.v b1),.int .u8 (.v b2),.int .u32 (.v b3),.bool (.lit al),.int .u8 (.lit ph),.int .u64 (.lit 0),
 .int .u64 (.lit 0),.int .u8 (.lit 0),.int .u32 (.lit 0),.int .u8 (.lit 0),.int .u64 (.lit 0),.int .i64 (.lit 0),.raw (.slice none 0 0),.raw (.slice none 0 0),.raw (.slice none 0 0),.int .u64 (.lit 0),.raw (.slice none 0 0),.int .u64 (.lit 0),.int .u8 (.lit 0),.int .u32 (.lit 0),.int .u64 (.lit 0)]
theorem begin_ok (al:Bool) (key:Int) (C:Nat) (po pn:Option Addr) (no nn co cn:Nat) (o n:Array Int) (b1 b2 b3:Int) (w:World) (hno:no≤100) (hnn:nn≤100) (ho:InB po no o w) (hn:InB pn nn n w) (hbo:∀ x∈o.toList,0≤x∧x<256) (hbn:∀ x∈n.toList,0≤x∧x<256) :
  Calls Tryz.prog 11 #[.agg #[.int .u64 C,.slice po no co,.slice pn nn cn],.int .u8 key,.agg #[.int .u64 b1,.int .u8 b2,.int .u32 b3],.bool al] w (BegR al C o n key b1 b2 b3 1 w):=by
 obtain ⟨Q,hQ⟩:∃ Q:Ending→World→Prop,Q=BegR al C o n key b1 b2 b3 1 w:=⟨_,rfl⟩
 rw [←hQ]
 refine X.begin (rg:=[]) (N:=[]) (ss:=[.agg [.int .u64 (.nat C),.slv po no co,.slv pn nn cn],.int .u8 (.v key),.agg [.int .u64 (.v b1),.int .u8 (.v b2),.int .u32 (.v b3)],.bool (.lit al)]) Tryz.func11 rfl B11_ok rfl rfl Sat.std0 ?_
 obtain ⟨mb,hmb⟩:∃ b,b=B (mayC C o n):=⟨_,rfl⟩
 obtain ⟨nb,hnb⟩:∃ b,b=decide (b1=0∧b2=0∧b3=0):=⟨_,rfl⟩
 have hmc:∀ w1:World,(∀ k o v,elsewhere [] [] w k o=some v→w1.cell? ⟨k,o,none⟩=some v)→Calls Tryz.prog 32 #[.agg #[.int .u64 C,.slice po no co,.slice pn nn cn]] w1 fun e w'=>e=.returned (.bool mb)∧Chg (fun _ _=>False) w1 w':=fun w1 him=>by
  rw [hmb];exact cmay_ok C po pn no nn co cn o n w1 (by omega) (by omega) (ho.im him) (hn.im him) hbo hbn
 cases mb
 ·skip
  refine X.goX ([(12,.bool (.lit false))]) ([]) T11_ok 400 _ rfl Tryz.results11 (fun pr pe fin hpr hpe hfin=>?_)
  conv=>cbv
  refine ⟨hpr _ ?_,hfin _ _ ?_⟩
  ·exact .of Tryz.call32 [.agg #[.int .u64 C,.slice po no co,.slice pn nn cn]] (.bool false) (fun _=>rfl) (fun _=>rfl) fun _ w1 him=>hmc w1 him
  refine X.done T11_ok rfl (fun N w' v hN hS hv=>?_)
  rw [hQ]
  refine ⟨.inr ⟨fun h=>?_,?_⟩,hS.chg.none⟩
  ·rw [B_pos h.1] at hmb;cases hmb
  ·rw [←(Option.some.inj hv:_=v)]
   rfl
 have hmay:mayC C o n:=B_iff.1 hmb.symm
 refine X.goX ([(12,.bool (.lit true)),(20,.bool (.v nb))]) ([]) T11_ok 400 _ rfl Tryz.results11 (fun pr pe fin hpr hpe hfin=>?_)
 conv=>cbv
 refine ⟨hpr _ ?_,hpr _ ?_,hfin _ _ ?_⟩
 ·exact .of Tryz.call32 [.agg #[.int .u64 C,.slice po no co,.slice pn nn cn]] (.bool true) (fun _=>rfl) (fun _=>rfl) fun _ w1 him=>hmc w1 him
 ·refine .of Tryz.call33 [.agg #[.int .u64 b1,.int .u8 b2,.int .u32 b3]] (.bool nb) (fun _=>rfl) (fun _=>rfl) fun _ w1 him=>?_
  rw [hnb]
  exact none_ok b1 b2 b3 w1
 clear hpr hpe hfin
 refine X.cond rfl (fun hT=>?_) (fun hF=>?_)
 ·simp only [SB.T,SB.F,SI.den] at hT
  refine X.go T11_ok 400 _ rfl Tryz.results11 ?_
  conv=>arg 2;cbv
  refine X.done T11_ok rfl (fun N w' v hN hS hv=>?_)
  rw [hQ]
  refine ⟨.inr ⟨fun ⟨_,h2,h3,h4⟩=>?_,?_⟩,hS.chg.none⟩
  ·rcases hT with (h | h) | h
   ·omega
   ·rw [hnb] at h;exact h3 (of_decide_eq_true h)
   ·omega
  ·rw [←(Option.some.inj hv:_=v)]
   rfl
 simp only [SB.T,SB.F,SI.den] at hF
 have hgood:begP C o n key b1 b2 b3:=⟨hmay,hF.1.1,by have h:=hF.1.2;rw [hnb] at h;exact of_decide_eq_false h,hF.2⟩
 clear hF
 have hnn0:0<nn:=by have:=hmay.1;have:=hn.1;omega
 obtain ⟨c1,hc1⟩:∃ c,c=bytL o.toList:=⟨_,rfl⟩
 obtain ⟨c2,hc2⟩:∃ c,c=bytL n.toList:=⟨_,rfl⟩
 obtain ⟨ow,how⟩:∃ b,b=decide (no≠0):=⟨_,rfl⟩
 have hw1:decide (nn≠0)=true:=decide_eq_true (by omega)
 have hA:∀ {po no d},InB po no d w→0<no→∃ b y,po=some ⟨b,y,none⟩∧∀ w':World,(∀ k o v,elsewhere [] [] w k o=some v→w'.cell? ⟨k,o,none⟩=some v)→∀ j,j<no→w'.cell? ⟨b,y+j,none⟩=some (.int .u8 d.toList[j]!):=fun {po no d} hd h0=>by
  obtain ⟨b,y,h1,h2⟩:=hd.2 h0
  refine ⟨b,y,h1,fun w' him j hj=>?_⟩
  obtain ⟨b',y',h3,h4⟩:=(hd.im him).2 h0
  rw [h1] at h3;cases h3
  have hs:=hd.1
  rw [h4 j (by omega),getElem!_pos d j (by omega),getElem!_pos d.toList j (by simp;omega)]
  simp
 have heff1:po≠none→∀ {rg:List Rg} {f:Fr} {t:Nat},ev f (.tmp t)=some (.slv po no co)→EffOk (mkE Tryz.prog Tryz.f11 Q w (InR [] []) (elsewhere [] [] w) (fun _ _=>False) (fun _=>True) [] B11).toEnv [] rg f (.call { callee:=.value (.func 34),args:=#[.tmp t],argTypes:=#[23] }) (.osl rg.length 0 no 1 none) (rg++[⟨ow,c1,none⟩]):=fun hp _ _ _ h=>by
  rw [how];exact clone_eff rfl hc1 hp (by omega) ho.1 (hA ho) h
 have hpn:pn≠none:=by obtain ⟨b,y,h,_⟩:=hn.2 hnn0;rw [h];simp
 have heff2:∀ {rg:List Rg} {f:Fr} {t:Nat},ev f (.tmp t)=some (.slv pn nn cn)→EffOk (mkE Tryz.prog Tryz.f11 Q w (InR [] []) (elsewhere [] [] w) (fun _ _=>False) (fun _=>True) [] B11).toEnv [] rg f (.call { callee:=.value (.func 34),args:=#[.tmp t],argTypes:=#[23] }) (.osl rg.length 0 nn 1 none) (rg++[⟨true,c2,none⟩]):=fun h=>by
  rw [←hw1];exact clone_eff rfl hc2 hpn (by omega) hn.1 (hA hn) h
 have hend:∀ {N:Nums} {w':World} {v:Value} {rg:List Rg} (r1 r2:Nat),Sat (mkE Tryz.prog Tryz.f11 Q w (InR [] []) (elsewhere [] [] w) (fun _ _=>False) (fun _=>True) [] B11).toEnv N rg w'→rg[r1]?=some ⟨ow,c1,none⟩→rg[r2]?=some ⟨true,c2,none⟩ →
   (resV [.agg (rndO al key C (.osl r1 0 no 1 none) (.osl r2 0 nn 1 none) b1 b2 b3 1),.int .i64 (.lit 0)]).den N=some v→Q (.returned v) w':=fun {N w' v rg} r1 r2 hS h1 h2 hv=>by
  obtain ⟨p1,hp1⟩:∃ p,N[r1]?=some p:=⟨_,List.getElem?_eq_getElem (by rw [hS.len];exact (List.getElem?_eq_some_iff.1 h1).1)⟩
  obtain ⟨p2,hp2⟩:∃ p,N[r2]?=some p:=⟨_,List.getElem?_eq_getElem (by rw [hS.len];exact (List.getElem?_eq_some_iff.1 h2).1)⟩
  simp only [resV,rndO,SV.den,SV.denL,SI.den,SB.den,hp1,hp2,one?,if_true,Num.cap,Nat.add_zero,Option.some.injEq] at hv
  rw [hQ]
  refine ⟨.inl ⟨hgood,some ⟨p1.b,p1.o,none⟩,no,_,some ⟨p2.b,p2.o,none⟩,nn,_,congrArg Ending.returned hv.symm,fun M hM=>⟨?_,?_⟩⟩,hS.chg.none⟩
  ·by_cases h0:no=0
   ·have hs:=ho.1
    have:o=#[]:=Array.size_eq_zero_iff.1 (by omega)
    subst this
    subst h0
    exact InM.nil _ _
   ·refine own_inM hS (r:=r1) ?_ hp1 (by simp [ho.1]) hM
    rw [h1,how,decide_eq_true h0,hc1]
  ·exact own_inM hS (r:=r2) (by rw [h2,hc2]) hp2 (by simp [hn.1]) hM
 have hend0:o=#[]→∀ {N:Nums} {w':World} {v:Value} {rg:List Rg} (r2:Nat),Sat (mkE Tryz.prog Tryz.f11 Q w (InR [] []) (elsewhere [] [] w) (fun _ _=>False) (fun _=>True) [] B11).toEnv N rg w'→rg[r2]?=some ⟨true,c2,none⟩ →
   (resV [.agg (rndO al key C (.raw (.slice none 0 0)) (.osl r2 0 nn 1 none) b1 b2 b3 1),.int .i64 (.lit 0)]).den N=some v→Q (.returned v) w':=fun h0 {N w' v rg} r2 hS h2 hv=>by
  obtain ⟨p2,hp2⟩:∃ p,N[r2]?=some p:=⟨_,List.getElem?_eq_getElem (by rw [hS.len];exact (List.getElem?_eq_some_iff.1 h2).1)⟩
  simp only [resV,rndO,SV.den,SV.denL,SI.den,SB.den,hp2,one?,if_true,Num.cap,Nat.add_zero,Option.some.injEq] at hv
  rw [hQ]
  refine ⟨.inl ⟨hgood,none,0,0,some ⟨p2.b,p2.o,none⟩,nn,_,congrArg Ending.returned hv.symm,fun M hM=>⟨?_,?_⟩⟩,hS.chg.none⟩
  ·rw [h0];exact InM.nil _ _
  ·exact own_inM hS (r:=r2) (by rw [h2,hc2]) hp2 (by simp [hn.1]) hM
 refine X.go T11_ok 400 _ rfl Tryz.results11 ?_
 conv=>arg 2;cbv
 by_cases hpo:po=none
 ·have hno0:no=0:=by
   rcases Nat.eq_zero_or_pos no with h | h
   ·exact h
   ·obtain ⟨b,y,h,_⟩:=ho.2 h
    rw [hpo] at h;cases h
  have ho0:o=#[]:=Array.size_eq_zero_iff.1 (by rw [ho.1];exact hno0)
  subst hpo hno0
  refine X.goTX ([(32,.raw (.slice none 0 0))]) ([(35,⟨fun rg=>.osl rg.length 0 nn 1 none,[],[⟨true,c2,none⟩]⟩)]) T11_ok (.q 0 [2,3,4,5,6,7,9] (.q 2 [0,1,5,6,9] (.q 5 [0,1,2,3,4,9] (.q 1 [0,2,3,4,5,6,7,9] (.q 3 [0,1,2,5,6,9] (.q 6 [0,1,2,3,4,5,9] (.two 4 9 (.two 7 9 (.q 8 [0,1,2,3,4,5,6,7,9] (.one 9 (.one 10 (.nil)))) (.one 7 (.q 8 [0,1,2,3,4,5,6,7,9] (.one 10 (.nil))))) (.one 4 (.one 7 (.q 8 [0,1,2,3,4,5,6,7,9] (.one 10 (.nil)))))))))))) _ rfl (by kernel_rfl) (by kernel_rfl) (fun pr pe fin hpr hpe hfin=>?_)
  conv=>cbv
  have hcl:∀ {rg:List Rg},CallOk (mkE Tryz.prog Tryz.f11 Q w (InR [] []) (elsewhere [] [] w) (fun _ _=>False) (fun _=>True) [] B11).toEnv [] rg .yes 34 [.slv none 0 co] (.raw (.slice none 0 0)):=fun {rg} =>
   .of Tryz.call34 [.slice none 0 co] (.slice none 0 0) (fun _=>rfl) (fun _=>rfl) fun _ w1 him=>clone8_nil co w1
  refine ⟨⟨hpr _ hcl,⟨hpe _ _ _ _ _ (heff2 rfl),rfl,rfl,hfin _ ?_⟩,rfl,hpe _ _ _ _ _ (heff2 rfl),rfl,hfin _ ?_⟩,rfl,hpr _ hcl,hpe _ _ _ _ _ (heff2 rfl),rfl,hfin _ ?_⟩
  ·skip
   refine X.go T11_ok 400 _ rfl Tryz.results11 ?_
   conv=>arg 2;cbv
   exact X.done T11_ok rfl (fun N w' v hN hS hv=>hend0 ho0 3 hS rfl hv)
  ·skip
   refine X.go T11_ok 400 _ rfl Tryz.results11 ?_
   conv=>arg 2;cbv
   exact X.done T11_ok rfl (fun N w' v hN hS hv=>hend0 ho0 4 hS rfl hv)
  ·skip
   refine X.go T11_ok 400 _ rfl Tryz.results11 ?_
   conv=>arg 2;cbv
   exact X.done T11_ok rfl (fun N w' v hN hS hv=>hend0 ho0 4 hS rfl hv)
 ·skip
  refine X.goTX ([]) ([(32,⟨fun rg=>.osl rg.length 0 no 1 none,[],[⟨ow,c1,none⟩]⟩),(35,⟨fun rg=>.osl rg.length 0 nn 1 none,[],[⟨true,c2,none⟩]⟩)]) T11_ok (.q 0 [2,3,4,5,6,7,9] (.q 2 [0,1,5,6,9] (.q 5 [0,1,2,3,4,9] (.q 1 [0,2,3,4,5,6,7,9] (.q 3 [0,1,2,5,6,9] (.q 6 [0,1,2,3,4,5,9] (.two 4 9 (.two 7 9 (.q 8 [0,1,2,3,4,5,6,7,9] (.one 9 (.one 10 (.nil)))) (.one 7 (.q 8 [0,1,2,3,4,5,6,7,9] (.one 10 (.nil))))) (.one 4 (.one 7 (.q 8 [0,1,2,3,4,5,6,7,9] (.one 10 (.nil)))))))))))) _ rfl (by kernel_rfl) (by kernel_rfl) (fun pr pe fin hpr hpe hfin=>?_)
  conv=>cbv
  refine ⟨⟨hpe _ _ _ _ _ (heff1 hpo rfl),⟨hpe _ _ _ _ _ (heff2 rfl),rfl,rfl,hfin _ ?_⟩,rfl,hpe _ _ _ _ _ (heff2 rfl),rfl,hfin _ ?_⟩,rfl,hpe _ _ _ _ _ (heff1 hpo rfl),hpe _ _ _ _ _ (heff2 rfl),rfl,hfin _ ?_⟩
  ·skip
   refine X.go T11_ok 400 _ rfl Tryz.results11 ?_
   conv=>arg 2;cbv
   exact X.done T11_ok rfl (fun N w' v hN hS hv=>hend 3 4 hS rfl rfl hv)
  ·skip
   refine X.go T11_ok 400 _ rfl Tryz.results11 ?_
   conv=>arg 2;cbv
   exact X.done T11_ok rfl (fun N w' v hN hS hv=>hend 3 5 hS rfl rfl hv)
  ·skip
   refine X.go T11_ok 400 _ rfl Tryz.results11 ?_
   conv=>arg 2;cbv
   exact X.done T11_ok rfl (fun N w' v hN hS hv=>hend 4 5 hS rfl rfl hv)
end Go.Proofs.YthaffebapmkppaaGreat
namespace Go.Proofs.YthaffebapmkppaaGreat
open Go Go.Eng
def rawL (vs:List Value):List SV:=vs.map .raw
theorem rawL_len (vs:List Value):(rawL vs).length=vs.length:=by simp [rawL]
theorem rawL_one {vs:List Value} (h:vs.all one?=true):(rawL vs).all SV.one=true:=by
 rw [List.all_eq_true] at h ⊢
 intro c hc
 obtain ⟨v,hv,rfl⟩:=List.mem_map.1 hc
 rfl
theorem rawL_den {vs:List Value} {c:SV} (hc:c∈rawL vs) {N N':Nums} {v:Value} (h:c.den N=some v):c.den N'=some v:=by
 obtain ⟨u,_,rfl⟩:=List.mem_map.1 hc
 exact h
theorem cloneI_ok (b y n cp:Nat) (vs:List Value) (w:World) (hn:vs.length=n*1) (h0:n≠0) (hle:n≤1000) (h1:vs.all one?=true) (hA:∀ (j:Nat) (v:Value),vs[j]?=some v→w.cell? ⟨b,y+j,none⟩=some v) :
  Calls Tryz.prog 73 #[.slice (some ⟨b,y,none⟩) n cp] w (FreshRet (rawL vs) n 1 w):=by
 obtain ⟨cs,hcs⟩:∃ cs,cs=rawL vs:=⟨_,rfl⟩
 have hlen:cs.length=n*1:=by rw [hcs,rawL_len,hn]
 rw [←hcs]
 refine X.begin (rg:=[]) (N:=[]) (ss:=[.slv (some ⟨b,y,none⟩) n cp]) Tryz.func73 rfl B73_ok rfl rfl Sat.std0 ?_
 refine X.addIm [(0,.val (.osl 0 0 n 1 (some cp)))] b y (cs:=cs) (by omega) (fun j x hj=>?_) (fun N hN=>?_) ?_
 ·rw [hcs] at hj
  simp only [rawL,List.getElem?_map,Option.map_eq_some_iff] at hj
  obtain ⟨v,hv,rfl⟩:=hj
  have ho:one? v=true:=List.all_eq_true.1 h1 v (List.mem_of_getElem? hv)
  exact ⟨v,fun _=>by simp [SV.den,ho],his (hA j v hv)⟩
 ·obtain rfl:N=[]:=List.eq_nil_of_length_eq_zero hN
  refine ⟨rfl,fun x h=>?_,trivial⟩
  simpa [SV.den,Num.cap] using h
 refine X.go T73_ok 16 _ rfl Tryz.results73 ?_
 conv=>arg 2;cbv
 apply X.opEq (T:=T73) T73_ok
 ·exact opE_append (te:=ti2) (new:=cs) (m:=n) rfl rfl rfl rfl rfl rfl rfl rfl (appSrc_row (g:=⟨false,cs,none⟩) rfl rfl rfl (by show cs.length=n*1;omega))
   (appV_new (te:=ti2) rfl h0 (appOk_ok (by decide) rfl (by show cs.length=n*1;omega) (by rw [hcs];exact rawL_one h1) (by show (2*(0+n)+256)*8≤_;omega) (by omega))) rfl
 refine X.go T73_ok 400 _ rfl Tryz.results73 ?_
 conv=>arg 2;cbv
 refine X.done T73_ok rfl (fun N w' v hN hS hv=>?_)
 exact freshRet_of hS (r:=2) rfl (by rw [hlen];omega) (List.prefix_refl _) (fun c hc N N' v h=>rawL_den (by rw [←hcs];exact hc) h) hv
theorem cloneIE_ok (a:Addr) (cp:Nat) (w:World):Calls Tryz.prog 73 #[.slice (some a) 0 cp] w (RoR [] 0 w):=by
 refine X.begin (rg:=[]) (N:=[]) (ss:=[.slv (some a) 0 cp]) Tryz.func73 rfl B73_ok rfl rfl Sat.std0 ?_
 refine X.go T73_ok 400 _ rfl Tryz.results73 ?_
 conv=>arg 2;cbv
 refine X.eqNil false rfl rfl rfl rfl Tryz.underlying29 (fun N _ _=>⟨_,_,_,rfl,rfl⟩) rfl ?_
 refine X.go T73_ok 400 _ rfl Tryz.results73 ?_
 conv=>arg 2;cbv
 refine X.app0 T73_ok rfl rfl rfl rfl rfl rfl rfl rfl rfl rfl (by decide) rfl (by decide) rfl ?_
 refine X.go T73_ok 400 _ rfl Tryz.results73 ?_
 conv=>arg 2;cbv
 refine X.done T73_ok rfl (fun N w' v hN hS hv=>?_)
 obtain ⟨p,hp⟩:∃ p,N[0]?=some p:=⟨_,List.getElem?_eq_getElem (by rw [hS.len];simp)⟩
 simp only [resV,SV.den,hp,Num.cap,Option.some.injEq] at hv
 exact ⟨p.b,p.o+0,_,by rw [←hv],fun h=>absurd h (Nat.lt_irrefl 0),hS.lt 0 p hp,fun j c hj=>by simp at hj,hS.chg.none⟩
theorem cloneIN_ok (cp:Nat) (w:World):Calls Tryz.prog 73 #[.slice none 0 cp] w fun e w'=>e=.returned (.slice none 0 0)∧Chg (fun _ _=>False) w w':=by
 refine X.begin (rg:=[]) (N:=[]) (ss:=[.slv none 0 cp]) Tryz.func73 rfl B73_ok rfl rfl Sat.std0 ?_
 refine X.go T73_ok 400 _ rfl Tryz.results73 ?_
 conv=>arg 2;cbv
 refine X.eqNil true rfl rfl rfl rfl Tryz.underlying29 (fun N _ _=>⟨_,_,_,rfl,rfl⟩) rfl ?_
 refine X.go T73_ok 400 _ rfl Tryz.results73 ?_
 conv=>arg 2;cbv
 refine X.done T73_ok rfl (fun N w' v hN hS hv=>?_)
 simp [resV,SV.den,one?] at hv
 exact ⟨by rw [←hv],hS.chg.none⟩
theorem cloneI_eff {E:Env} {N0:Nums} {rg:List Rg} {f:Fr} {po:Option Addr} {n co:Nat} {vs:List Value} {t:Nat} {cl:List SV} (hP:E.P=Tryz.prog) (hcl:cl=rawL vs) (hp:po≠none) (hle:n≤1000) (hn:vs.length=n*1) (h1:vs.all one?=true) (hA:0<n→∃ b y,po=some ⟨b,y,none⟩∧∀ w:World,(∀ k o v,E.im k o=some v→w.cell? ⟨k,o,none⟩=some v)→∀ (j:Nat) (v:Value),vs[j]?=some v→w.cell? ⟨b,y+j,none⟩=some v) (hev:ev f (.tmp t)=some (.slv po n co)) :
  EffOk E N0 rg f (.call { callee:=.value (.func 73),args:=#[.tmp t],argTypes:=#[29] }) (.osl rg.length 0 n 1 none) (rg++[⟨decide (n≠0),cl,none⟩]):=by
 by_cases h0:n=0
 ·subst h0
  have ho:vs=[]:=List.eq_nil_of_length_eq_zero (by omega)
  subst ho
  obtain rfl:cl=[]:=hcl
  refine EffOk.call (l:=[.slv po 0 co]) (by simp [evL,hev]) (by rw [hP];exact Tryz.call73) fun N w1 args hN hS ha=>?_
  simp only [SV.denL,SV.den,Option.some.injEq] at ha
  rw [←ha,hP]
  cases po with
  | none=>exact absurd rfl hp
  | some a =>
   refine (cloneIE_ok a co w1).mono fun e w' hr=>?_
   obtain ⟨N',v,h1,h2,h3,h4⟩:=hr.sat (sz:=1) (by decide) hS
   exact ⟨v,h1,N',h2,h3,h4⟩
 ·rw [decide_eq_true h0]
  obtain ⟨b,y,rfl,hB⟩:=hA (by omega)
  refine EffOk.fresh (l:=[.slv (some ⟨b,y,none⟩) n co]) (by simp [evL,hev]) (by rw [hP];exact Tryz.call73) fun N w1 args hN hS ha=>?_
  simp only [SV.denL,SV.den,Option.some.injEq] at ha
  rw [←ha,hP,hcl]
  exact cloneI_ok b y n co vs w1 hn h0 hle h1 (hB w1 hS.imm)
theorem cloneCell_ok (b y n cp:Nat) (vs:List Value) (w:World) (hn:vs.length=n*4) (h0:n≠0) (hle:n≤1000) (h1:vs.all one?=true) (hA:∀ (j:Nat) (v:Value),vs[j]?=some v→w.cell? ⟨b,y+j,none⟩=some v) :
  Calls Tryz.prog 74 #[.slice (some ⟨b,y,none⟩) n cp] w (FreshRet (rawL vs) n 4 w):=by
 obtain ⟨cs,hcs⟩:∃ cs,cs=rawL vs:=⟨_,rfl⟩
 have hlen:cs.length=n*4:=by rw [hcs,rawL_len,hn]
 rw [←hcs]
 refine X.begin (rg:=[]) (N:=[]) (ss:=[.slv (some ⟨b,y,none⟩) n cp]) Tryz.func74 rfl B74_ok rfl rfl Sat.std0 ?_
 refine X.addIm [(0,.val (.osl 0 0 n 4 (some cp)))] b y (cs:=cs) (by omega) (fun j x hj=>?_) (fun N hN=>?_) ?_
 ·rw [hcs] at hj
  simp only [rawL,List.getElem?_map,Option.map_eq_some_iff] at hj
  obtain ⟨v,hv,rfl⟩:=hj
  have ho:one? v=true:=List.all_eq_true.1 h1 v (List.mem_of_getElem? hv)
  exact ⟨v,fun _=>by simp [SV.den,ho],his (hA j v hv)⟩
 ·obtain rfl:N=[]:=List.eq_nil_of_length_eq_zero hN
  refine ⟨rfl,fun x h=>?_,trivial⟩
  simpa [SV.den,Num.cap] using h
 refine X.go T74_ok 16 _ rfl Tryz.results74 ?_
 conv=>arg 2;cbv
 apply X.opEq (T:=T74) T74_ok
 ·exact opE_append (te:=ti148) (new:=cs) (m:=n) rfl rfl rfl rfl rfl rfl rfl rfl (appSrc_row (g:=⟨false,cs,none⟩) rfl rfl rfl (by show cs.length=n*4;omega))
   (appV_new (te:=ti148) rfl h0 (appOk_ok (by decide) rfl (by show cs.length=n*4;omega) (by rw [hcs];exact rawL_one h1) (by show (2*(0+n)+256)*32≤_;omega) (by omega))) rfl
 refine X.go T74_ok 400 _ rfl Tryz.results74 ?_
 conv=>arg 2;cbv
 refine X.done T74_ok rfl (fun N w' v hN hS hv=>?_)
 exact freshRet_of hS (r:=2) rfl (by rw [hlen];omega) (List.prefix_refl _) (fun c hc N N' v h=>rawL_den (by rw [←hcs];exact hc) h) hv
theorem cloneCellE_ok (a:Addr) (cp:Nat) (w:World):Calls Tryz.prog 74 #[.slice (some a) 0 cp] w (RoR [] 0 w):=by
 refine X.begin (rg:=[]) (N:=[]) (ss:=[.slv (some a) 0 cp]) Tryz.func74 rfl B74_ok rfl rfl Sat.std0 ?_
 refine X.go T74_ok 400 _ rfl Tryz.results74 ?_
 conv=>arg 2;cbv
 refine X.eqNil false rfl rfl rfl rfl Tryz.underlying31 (fun N _ _=>⟨_,_,_,rfl,rfl⟩) rfl ?_
 refine X.go T74_ok 400 _ rfl Tryz.results74 ?_
 conv=>arg 2;cbv
 refine X.app0 T74_ok rfl rfl rfl rfl rfl rfl rfl rfl rfl rfl (by decide) rfl (by decide) rfl ?_
 refine X.go T74_ok 400 _ rfl Tryz.results74 ?_
 conv=>arg 2;cbv
 refine X.done T74_ok rfl (fun N w' v hN hS hv=>?_)
 obtain ⟨p,hp⟩:∃ p,N[0]?=some p:=⟨_,List.getElem?_eq_getElem (by rw [hS.len];simp)⟩
 simp only [resV,SV.den,hp,Num.cap,Option.some.injEq] at hv
 exact ⟨p.b,p.o+0,_,by rw [←hv],fun h=>absurd h (Nat.lt_irrefl 0),hS.lt 0 p hp,fun j c hj=>by simp at hj,hS.chg.none⟩
theorem cloneCellN_ok (cp:Nat) (w:World):Calls Tryz.prog 74 #[.slice none 0 cp] w fun e w'=>e=.returned (.slice none 0 0)∧Chg (fun _ _=>False) w w':=by
 refine X.begin (rg:=[]) (N:=[]) (ss:=[.slv none 0 cp]) Tryz.func74 rfl B74_ok rfl rfl Sat.std0 ?_
 refine X.go T74_ok 400 _ rfl Tryz.results74 ?_
 conv=>arg 2;cbv
 refine X.eqNil true rfl rfl rfl rfl Tryz.underlying31 (fun N _ _=>⟨_,_,_,rfl,rfl⟩) rfl ?_
 refine X.go T74_ok 400 _ rfl Tryz.results74 ?_
 conv=>arg 2;cbv
 refine X.done T74_ok rfl (fun N w' v hN hS hv=>?_)
 simp [resV,SV.den,one?] at hv
 exact ⟨by rw [←hv],hS.chg.none⟩
theorem cloneCell_eff {E:Env} {N0:Nums} {rg:List Rg} {f:Fr} {po:Option Addr} {n co:Nat} {vs:List Value} {t:Nat} {cl:List SV} (hP:E.P=Tryz.prog) (hcl:cl=rawL vs) (hp:po≠none) (hle:n≤1000) (hn:vs.length=n*4) (h1:vs.all one?=true) (hA:0<n→∃ b y,po=some ⟨b,y,none⟩∧∀ w:World,(∀ k o v,E.im k o=some v→w.cell? ⟨k,o,none⟩=some v)→∀ (j:Nat) (v:Value),vs[j]?=some v→w.cell? ⟨b,y+j,none⟩=some v) (hev:ev f (.tmp t)=some (.slv po n co)) :
  EffOk E N0 rg f (.call { callee:=.value (.func 74),args:=#[.tmp t],argTypes:=#[31] }) (.osl rg.length 0 n 4 none) (rg++[⟨decide (n≠0),cl,none⟩]):=by
 by_cases h0:n=0
 ·subst h0
  have ho:vs=[]:=List.eq_nil_of_length_eq_zero (by omega)
  subst ho
  obtain rfl:cl=[]:=hcl
  refine EffOk.call (l:=[.slv po 0 co]) (by simp [evL,hev]) (by rw [hP];exact Tryz.call74) fun N w1 args hN hS ha=>?_
  simp only [SV.denL,SV.den,Option.some.injEq] at ha
  rw [←ha,hP]
  cases po with
  | none=>exact absurd rfl hp
  | some a =>
   refine (cloneCellE_ok a co w1).mono fun e w' hr=>?_
   obtain ⟨N',v,h1,h2,h3,h4⟩:=hr.sat (sz:=4) (by decide) hS
   exact ⟨v,h1,N',h2,h3,h4⟩
 ·rw [decide_eq_true h0]
  obtain ⟨b,y,rfl,hB⟩:=hA (by omega)
  refine EffOk.fresh (l:=[.slv (some ⟨b,y,none⟩) n co]) (by simp [evL,hev]) (by rw [hP];exact Tryz.call74) fun N w1 args hN hS ha=>?_
  simp only [SV.denL,SV.den,Option.some.injEq] at ha
  rw [←ha,hP,hcl]
  exact cloneCell_ok b y n co vs w1 hn h0 hle h1 (hB w1 hS.imm)
theorem cloneMark_ok (b y n cp:Nat) (vs:List Value) (w:World) (hn:vs.length=n*3) (h0:n≠0) (hle:n≤1000) (h1:vs.all one?=true) (hA:∀ (j:Nat) (v:Value),vs[j]?=some v→w.cell? ⟨b,y+j,none⟩=some v) :
  Calls Tryz.prog 75 #[.slice (some ⟨b,y,none⟩) n cp] w (FreshRet (rawL vs) n 3 w):=by
 obtain ⟨cs,hcs⟩:∃ cs,cs=rawL vs:=⟨_,rfl⟩
 have hlen:cs.length=n*3:=by rw [hcs,rawL_len,hn]
 rw [←hcs]
 refine X.begin (rg:=[]) (N:=[]) (ss:=[.slv (some ⟨b,y,none⟩) n cp]) Tryz.func75 rfl B75_ok rfl rfl Sat.std0 ?_
 refine X.addIm [(0,.val (.osl 0 0 n 3 (some cp)))] b y (cs:=cs) (by omega) (fun j x hj=>?_) (fun N hN=>?_) ?_
 ·rw [hcs] at hj
  simp only [rawL,List.getElem?_map,Option.map_eq_some_iff] at hj
  obtain ⟨v,hv,rfl⟩:=hj
  have ho:one? v=true:=List.all_eq_true.1 h1 v (List.mem_of_getElem? hv)
  exact ⟨v,fun _=>by simp [SV.den,ho],his (hA j v hv)⟩
 ·obtain rfl:N=[]:=List.eq_nil_of_length_eq_zero hN
  refine ⟨rfl,fun x h=>?_,trivial⟩
  simpa [SV.den,Num.cap] using h
 refine X.go T75_ok 16 _ rfl Tryz.results75 ?_
 conv=>arg 2;cbv
 apply X.opEq (T:=T75) T75_ok
 ·exact opE_append (te:=ti151) (new:=cs) (m:=n) rfl rfl rfl rfl rfl rfl rfl rfl (appSrc_row (g:=⟨false,cs,none⟩) rfl rfl rfl (by show cs.length=n*3;omega))
   (appV_new (te:=ti151) rfl h0 (appOk_ok (by decide) rfl (by show cs.length=n*3;omega) (by rw [hcs];exact rawL_one h1) (by show (2*(0+n)+256)*24≤_;omega) (by omega))) rfl
 refine X.go T75_ok 400 _ rfl Tryz.results75 ?_
 conv=>arg 2;cbv
 refine X.done T75_ok rfl (fun N w' v hN hS hv=>?_)
 exact freshRet_of hS (r:=2) rfl (by rw [hlen];omega) (List.prefix_refl _) (fun c hc N N' v h=>rawL_den (by rw [←hcs];exact hc) h) hv
theorem cloneMarkE_ok (a:Addr) (cp:Nat) (w:World):Calls Tryz.prog 75 #[.slice (some a) 0 cp] w (RoR [] 0 w):=by
 refine X.begin (rg:=[]) (N:=[]) (ss:=[.slv (some a) 0 cp]) Tryz.func75 rfl B75_ok rfl rfl Sat.std0 ?_
 refine X.go T75_ok 400 _ rfl Tryz.results75 ?_
 conv=>arg 2;cbv
 refine X.eqNil false rfl rfl rfl rfl Tryz.underlying32 (fun N _ _=>⟨_,_,_,rfl,rfl⟩) rfl ?_
 refine X.go T75_ok 400 _ rfl Tryz.results75 ?_
 conv=>arg 2;cbv
 refine X.app0 T75_ok rfl rfl rfl rfl rfl rfl rfl rfl rfl rfl (by decide) rfl (by decide) rfl ?_
 refine X.go T75_ok 400 _ rfl Tryz.results75 ?_
 conv=>arg 2;cbv
 refine X.done T75_ok rfl (fun N w' v hN hS hv=>?_)
 obtain ⟨p,hp⟩:∃ p,N[0]?=some p:=⟨_,List.getElem?_eq_getElem (by rw [hS.len];simp)⟩
 simp only [resV,SV.den,hp,Num.cap,Option.some.injEq] at hv
 exact ⟨p.b,p.o+0,_,by rw [←hv],fun h=>absurd h (Nat.lt_irrefl 0),hS.lt 0 p hp,fun j c hj=>by simp at hj,hS.chg.none⟩
theorem cloneMarkN_ok (cp:Nat) (w:World):Calls Tryz.prog 75 #[.slice none 0 cp] w fun e w'=>e=.returned (.slice none 0 0)∧Chg (fun _ _=>False) w w':=by
 refine X.begin (rg:=[]) (N:=[]) (ss:=[.slv none 0 cp]) Tryz.func75 rfl B75_ok rfl rfl Sat.std0 ?_
 refine X.go T75_ok 400 _ rfl Tryz.results75 ?_
 conv=>arg 2;cbv
 refine X.eqNil true rfl rfl rfl rfl Tryz.underlying32 (fun N _ _=>⟨_,_,_,rfl,rfl⟩) rfl ?_
 refine X.go T75_ok 400 _ rfl Tryz.results75 ?_
 conv=>arg 2;cbv
 refine X.done T75_ok rfl (fun N w' v hN hS hv=>?_)
 simp [resV,SV.den,one?] at hv
 exact ⟨by rw [←hv],hS.chg.none⟩
theorem cloneMark_eff {E:Env} {N0:Nums} {rg:List Rg} {f:Fr} {po:Option Addr} {n co:Nat} {vs:List Value} {t:Nat} {cl:List SV} (hP:E.P=Tryz.prog) (hcl:cl=rawL vs) (hp:po≠none) (hle:n≤1000) (hn:vs.length=n*3) (h1:vs.all one?=true) (hA:0<n→∃ b y,po=some ⟨b,y,none⟩∧∀ w:World,(∀ k o v,E.im k o=some v→w.cell? ⟨k,o,none⟩=some v)→∀ (j:Nat) (v:Value),vs[j]?=some v→w.cell? ⟨b,y+j,none⟩=some v) (hev:ev f (.tmp t)=some (.slv po n co)) :
  EffOk E N0 rg f (.call { callee:=.value (.func 75),args:=#[.tmp t],argTypes:=#[32] }) (.osl rg.length 0 n 3 none) (rg++[⟨decide (n≠0),cl,none⟩]):=by
 by_cases h0:n=0
 ·subst h0
  have ho:vs=[]:=List.eq_nil_of_length_eq_zero (by omega)
  subst ho
  obtain rfl:cl=[]:=hcl
  refine EffOk.call (l:=[.slv po 0 co]) (by simp [evL,hev]) (by rw [hP];exact Tryz.call75) fun N w1 args hN hS ha=>?_
  simp only [SV.denL,SV.den,Option.some.injEq] at ha
  rw [←ha,hP]
  cases po with
  | none=>exact absurd rfl hp
  | some a =>
   refine (cloneMarkE_ok a co w1).mono fun e w' hr=>?_
   obtain ⟨N',v,h1,h2,h3,h4⟩:=hr.sat (sz:=3) (by decide) hS
   exact ⟨v,h1,N',h2,h3,h4⟩
 ·rw [decide_eq_true h0]
  obtain ⟨b,y,rfl,hB⟩:=hA (by omega)
  refine EffOk.fresh (l:=[.slv (some ⟨b,y,none⟩) n co]) (by simp [evL,hev]) (by rw [hP];exact Tryz.call75) fun N w1 args hN hS ha=>?_
  simp only [SV.denL,SV.den,Option.some.injEq] at ha
  rw [←ha,hP,hcl]
  exact cloneMark_ok b y n co vs w1 hn h0 hle h1 (hB w1 hS.imm)
theorem cloneDone_ok (b y n cp:Nat) (vs:List Value) (w:World) (hn:vs.length=n*6) (h0:n≠0) (hle:n≤1000) (h1:vs.all one?=true) (hA:∀ (j:Nat) (v:Value),vs[j]?=some v→w.cell? ⟨b,y+j,none⟩=some v) :
  Calls Tryz.prog 76 #[.slice (some ⟨b,y,none⟩) n cp] w (FreshRet (rawL vs) n 6 w):=by
 obtain ⟨cs,hcs⟩:∃ cs,cs=rawL vs:=⟨_,rfl⟩
 have hlen:cs.length=n*6:=by rw [hcs,rawL_len,hn]
 rw [←hcs]
 refine X.begin (rg:=[]) (N:=[]) (ss:=[.slv (some ⟨b,y,none⟩) n cp]) Tryz.func76 rfl B76_ok rfl rfl Sat.std0 ?_
 refine X.addIm [(0,.val (.osl 0 0 n 6 (some cp)))] b y (cs:=cs) (by omega) (fun j x hj=>?_) (fun N hN=>?_) ?_
 ·rw [hcs] at hj
  simp only [rawL,List.getElem?_map,Option.map_eq_some_iff] at hj
  obtain ⟨v,hv,rfl⟩:=hj
  have ho:one? v=true:=List.all_eq_true.1 h1 v (List.mem_of_getElem? hv)
  exact ⟨v,fun _=>by simp [SV.den,ho],his (hA j v hv)⟩
 ·obtain rfl:N=[]:=List.eq_nil_of_length_eq_zero hN
  refine ⟨rfl,fun x h=>?_,trivial⟩
  simpa [SV.den,Num.cap] using h
 refine X.go T76_ok 16 _ rfl Tryz.results76 ?_
 conv=>arg 2;cbv
 apply X.opEq (T:=T76) T76_ok
 ·exact opE_append (te:=ti94) (new:=cs) (m:=n) rfl rfl rfl rfl rfl rfl rfl rfl (appSrc_row (g:=⟨false,cs,none⟩) rfl rfl rfl (by show cs.length=n*6;omega))
   (appV_new (te:=ti94) rfl h0 (appOk_ok (by decide) rfl (by show cs.length=n*6;omega) (by rw [hcs];exact rawL_one h1) (by show (2*(0+n)+256)*64≤_;omega) (by omega))) rfl
 refine X.go T76_ok 400 _ rfl Tryz.results76 ?_
 conv=>arg 2;cbv
 refine X.done T76_ok rfl (fun N w' v hN hS hv=>?_)
 exact freshRet_of hS (r:=2) rfl (by rw [hlen];omega) (List.prefix_refl _) (fun c hc N N' v h=>rawL_den (by rw [←hcs];exact hc) h) hv
theorem cloneDoneE_ok (a:Addr) (cp:Nat) (w:World):Calls Tryz.prog 76 #[.slice (some a) 0 cp] w (RoR [] 0 w):=by
 refine X.begin (rg:=[]) (N:=[]) (ss:=[.slv (some a) 0 cp]) Tryz.func76 rfl B76_ok rfl rfl Sat.std0 ?_
 refine X.go T76_ok 400 _ rfl Tryz.results76 ?_
 conv=>arg 2;cbv
 refine X.eqNil false rfl rfl rfl rfl Tryz.underlying30 (fun N _ _=>⟨_,_,_,rfl,rfl⟩) rfl ?_
 refine X.go T76_ok 400 _ rfl Tryz.results76 ?_
 conv=>arg 2;cbv
 refine X.app0 T76_ok rfl rfl rfl rfl rfl rfl rfl rfl rfl rfl (by decide) rfl (by decide) rfl ?_
 refine X.go T76_ok 400 _ rfl Tryz.results76 ?_
 conv=>arg 2;cbv
 refine X.done T76_ok rfl (fun N w' v hN hS hv=>?_)
 obtain ⟨p,hp⟩:∃ p,N[0]?=some p:=⟨_,List.getElem?_eq_getElem (by rw [hS.len];simp)⟩
 simp only [resV,SV.den,hp,Num.cap,Option.some.injEq] at hv
 exact ⟨p.b,p.o+0,_,by rw [←hv],fun h=>absurd h (Nat.lt_irrefl 0),hS.lt 0 p hp,fun j c hj=>by simp at hj,hS.chg.none⟩
theorem cloneDoneN_ok (cp:Nat) (w:World):Calls Tryz.prog 76 #[.slice none 0 cp] w fun e w'=>e=.returned (.slice none 0 0)∧Chg (fun _ _=>False) w w':=by
 refine X.begin (rg:=[]) (N:=[]) (ss:=[.slv none 0 cp]) Tryz.func76 rfl B76_ok rfl rfl Sat.std0 ?_
 refine X.go T76_ok 400 _ rfl Tryz.results76 ?_
 conv=>arg 2;cbv
 refine X.eqNil true rfl rfl rfl rfl Tryz.underlying30 (fun N _ _=>⟨_,_,_,rfl,rfl⟩) rfl ?_
 refine X.go T76_ok 400 _ rfl Tryz.results76 ?_
 conv=>arg 2;cbv
 refine X.done T76_ok rfl (fun N w' v hN hS hv=>?_)
 simp [resV,SV.den,one?] at hv
 exact ⟨by rw [←hv],hS.chg.none⟩
theorem cloneDone_eff {E:Env} {N0:Nums} {rg:List Rg} {f:Fr} {po:Option Addr} {n co:Nat} {vs:List Value} {t:Nat} {cl:List SV} (hP:E.P=Tryz.prog) (hcl:cl=rawL vs) (hp:po≠none) (hle:n≤1000) (hn:vs.length=n*6) (h1:vs.all one?=true) (hA:0<n→∃ b y,po=some ⟨b,y,none⟩∧∀ w:World,(∀ k o v,E.im k o=some v→w.cell? ⟨k,o,none⟩=some v)→∀ (j:Nat) (v:Value),vs[j]?=some v→w.cell? ⟨b,y+j,none⟩=some v) (hev:ev f (.tmp t)=some (.slv po n co)) :
  EffOk E N0 rg f (.call { callee:=.value (.func 76),args:=#[.tmp t],argTypes:=#[30] }) (.osl rg.length 0 n 6 none) (rg++[⟨decide (n≠0),cl,none⟩]):=by
 by_cases h0:n=0
 ·subst h0
  have ho:vs=[]:=List.eq_nil_of_length_eq_zero (by omega)
  subst ho
  obtain rfl:cl=[]:=hcl
  refine EffOk.call (l:=[.slv po 0 co]) (by simp [evL,hev]) (by rw [hP];exact Tryz.call76) fun N w1 args hN hS ha=>?_
  simp only [SV.denL,SV.den,Option.some.injEq] at ha
  rw [←ha,hP]
  cases po with
  | none=>exact absurd rfl hp
  | some a =>
   refine (cloneDoneE_ok a co w1).mono fun e w' hr=>?_
   obtain ⟨N',v,h1,h2,h3,h4⟩:=hr.sat (sz:=6) (by decide) hS
   exact ⟨v,h1,N',h2,h3,h4⟩
 ·rw [decide_eq_true h0]
  obtain ⟨b,y,rfl,hB⟩:=hA (by omega)
  refine EffOk.fresh (l:=[.slv (some ⟨b,y,none⟩) n co]) (by simp [evL,hev]) (by rw [hP];exact Tryz.call76) fun N w1 args hN hS ha=>?_
  simp only [SV.denL,SV.den,Option.some.injEq] at ha
  rw [←ha,hP,hcl]
  exact cloneDone_ok b y n co vs w1 hn h0 hle h1 (hB w1 hS.imm)
end Go.Proofs.YthaffebapmkppaaGreat
namespace Go.Eng
open Go
theorem flatten_get {α:Type} {K:Nat} (hK:0<K):∀ {vss:List (List α)},(∀ v∈vss,v.length=K)→∀ (j:Nat),vss.flatten[j]?=(vss[j / K]?).bind fun vs=>vs[j % K]?
 | [],_,j=>by simp
 | a::l,h,j=>by
  have ha:a.length=K:=h a List.mem_cons_self
  have ih:=flatten_get hK (vss:=l) fun v hv=>h v (List.mem_cons_of_mem _ hv)
  rw [List.flatten_cons]
  by_cases hj:j<K
  ·rw [List.getElem?_append_left (by omega),Nat.div_eq_of_lt hj,Nat.mod_eq_of_lt hj]
   rfl
  ·obtain ⟨m,rfl⟩:∃ m,j=m+K:=⟨j-K,by omega⟩
   rw [List.getElem?_append_right (by omega),ha,Nat.add_sub_cancel,ih m,Nat.add_div_right _ hK,Nat.add_mod_right]
   rfl
theorem flatten_len {α:Type} {K:Nat}:∀ {vss:List (List α)},(∀ v∈vss,v.length=K)→vss.flatten.length=vss.length*K
 | [],_=>by simp
 | a::l,h=>by
  rw [List.flatten_cons,List.length_append,flatten_len fun v hv=>h v (List.mem_cons_of_mem _ hv),h a List.mem_cons_self,List.length_cons,Nat.add_mul]
  omega
theorem SlR.rows {α:Type} {f:α→List Dt} {l:List α} {M:Mem} {p:Option Addr} {c K:Nat} (hs:SlR M p c K (l.map f)) (hK:∀ x:α,∀ vs,RepL M (f x) vs→vs.length=K) :
  ∃ vss:List (List Value),vss.length=l.length∧(∀ v∈vss,v.length=K)∧(∀ (i:Nat) (x:α),l[i]?=some x→∃ vs,vss[i]?=some vs∧RepL M (f x) vs) ∧
   (0<l.length→∃ b y,p=some ⟨b,y,none⟩∧∀ (i:Nat) (vs:List Value),vss[i]?=some vs→∀ (j:Nat) (v:Value),vs[j]?=some v→M b (y+i*K+j)=some v):=by
 obtain ⟨_,h | ⟨b,y,hp,h⟩⟩:=hs
 ·have hl:l=[]:=List.map_eq_nil_iff.1 h
  subst hl
  exact ⟨[],rfl,fun v hv=>by simp at hv,fun i x hx=>by simp at hx,fun h=>absurd h (Nat.lt_irrefl 0)⟩
 ·have hch:∀ i:Nat,∃ vs:List Value,∀ x,l[i]?=some x→RepL M (f x) vs∧∀ (j:Nat) (v:Value),vs[j]?=some v→M b (y+i*K+j)=some v:=fun i=>by
   cases hx:l[i]? with
   | none=>exact ⟨[],fun x e=>by cases e⟩
   | some x =>
    obtain ⟨vs,h1,h2⟩:=h i (f x) (by rw [List.getElem?_map,hx];rfl)
    exact ⟨vs,fun x' e=>by cases e;exact ⟨h1,h2⟩⟩
  obtain ⟨g,hg⟩:=Classical.axiomOfChoice hch
  have hget:∀ i x,l[i]?=some x→((List.range l.length).map g)[i]?=some (g i):=fun i x hx=>by
   have:=(List.getElem?_eq_some_iff.1 hx).1
   simp [this]
  refine ⟨(List.range l.length).map g,by simp,fun v hv=>?_,fun i x hx=>⟨g i,hget i x hx,(hg i x hx).1⟩,fun _=>⟨b,y,hp,fun i vs hi j v hj=>?_⟩⟩
  ·obtain ⟨i,hi,rfl⟩:=List.mem_map.1 hv
   have hi:i<l.length:=List.mem_range.1 hi
   exact hK l[i] _ (hg i l[i] (List.getElem?_eq_getElem hi)).1
  ·have hil:i<l.length:=by
    have:=(List.getElem?_eq_some_iff.1 hi).1
    simpa using this
   have e:=hget i l[i] (List.getElem?_eq_getElem hil)
   rw [e] at hi
   cases hi
   exact (hg i l[i] (List.getElem?_eq_getElem hil)).2 j v hj
theorem SlR.of {α:Type} {f:α→List Dt} {l:List α} {M:Mem} {p:Option Addr} {c K:Nat} {vss:List (List Value)} (hc:l.length≤c) (hm:l.length≤maxLen) (hl:vss.length=l.length) (hr:∀ (i:Nat) (x:α),l[i]?=some x→∃ vs,vss[i]?=some vs∧RepL M (f x) vs)
  (hM:0<l.length→∃ b y,p=some ⟨b,y,none⟩∧∀ (i:Nat) (vs:List Value),vss[i]?=some vs→∀ (j:Nat) (v:Value),vs[j]?=some v→M b (y+i*K+j)=some v):SlR M p c K (l.map f):=by
 refine ⟨⟨by simpa using hc,by simpa using hm⟩,?_⟩
 by_cases h0:l=[]
 ·exact .inl (by simp [h0])
 ·obtain ⟨b,y,hp,h⟩:=hM (List.length_pos_iff.2 h0)
  refine .inr ⟨b,y,hp,fun i d hd=>?_⟩
  rw [List.getElem?_map,Option.map_eq_some_iff] at hd
  obtain ⟨x,hx,rfl⟩:=hd
  obtain ⟨vs,h1,h2⟩:=hr i x hx
  exact ⟨vs,h2,h i vs h1⟩
end Go.Eng
namespace Go.Proofs.YthaffebapmkppaaGreat
open Go Go.Eng
theorem i64_vals {x:Int} {M:Mem} {vs:List Value} (h:RepL M (i64D x) vs):vs.length=1∧vs.all one?=true∧∀ M',RepL M' (i64D x) vs:=by
 rw [i64D.open h];exact ⟨rfl,rfl,fun M'=>by simp [i64D,RepL,RepC]⟩
theorem cell_vals {x:CellP} {M:Mem} {vs:List Value} (h:RepL M x.toD vs):vs.length=4∧vs.all one?=true∧∀ M',RepL M' x.toD vs:=by
 rw [CellP.open h];exact ⟨rfl,rfl,fun M'=>by simp [CellP.toD,RepL,RepC]⟩
theorem mark_vals {x:MarkP} {M:Mem} {vs:List Value} (h:RepL M x.toD vs):vs.length=3∧vs.all one?=true∧∀ M',RepL M' x.toD vs:=by
 rw [MarkP.open h];exact ⟨rfl,rfl,fun M'=>by simp [MarkP.toD,RepL,RepC]⟩
theorem done_vals {x:DoneP} {M:Mem} {vs:List Value} (h:RepL M x.toD vs):vs.length=6∧vs.all one?=true:=by
 obtain ⟨p,c,rfl⟩:=DoneP.cells h;exact ⟨rfl,rfl⟩
def cV (p:Option Addr) (r n K:Nat):SV:=match p with
 | none=>.raw (.slice none 0 0)
 | some _=>.osl r 0 n K none
end Go.Proofs.YthaffebapmkppaaGreat
namespace Go.Eng
open Go
theorem stepE_store {T:Tab} {rg:List Rg} {f:Fr} {t:TypeId} {x y:Operand} {r c:Nat} {v:SV} {ti:TI} {g:Rg} (hx:ev f x=some (.own r c)) (hy:ev f y=some v) (ht:lookT T t=some ti) (hg:nth rg r=some g) (hown:g.own=true) (hl:Nat.beq v.cells.length ti.size=true) (hle:c+ti.size≤g.cells.length) (h1:v.cells.all SV.one=true) :
  stepE T rg (ev f) (.store t x y)=some (.tup [],rg.set r { g with cells:=setRow g.cells c v.cells }):=by
 have hble:Nat.ble (c+ti.size) g.cells.length=true:=Nat.ble_eq_true_of_le hle
 simp only [stepE,hx,hy,ht,hg,hown,hl,hble,h1,Bool.and_self,cond_true]
theorem ValOk.conv {E:Env} {N0:Nums} {rg:List Rg} {f:Fr} {g:GK} {op:Op} {r r':SV} (h:ValOk E N0 rg f g op r) (hr:∀ N v,r.den N=some v→r'.den N=some v):ValOk E N0 rg f g op r':=fun ht N ρ o w h1 h2 h3 h4=>by
 obtain ⟨v,k1,k2⟩:=h ht N ρ o w h1 h2 h3 h4
 exact ⟨v,hr N v k1,k2⟩
theorem vk_lenV {E:Env} {N0:Nums} {rg:List Rg} {f:Fr} {g:GK} {x:Operand} {ts e n:Nat} {sx:SV} (hx:evK f g x=some sx) (hs:∀ N v,sx.den N=some v→∃ p c,v=.slice p n c) (hu:E.P.underlying ts=some (.slice e)):ValOk E N0 rg f g (.call { callee:=.builtin .len,args:=#[x],argTypes:=#[ts] }) (.int .i64 (.nat n)):=by
 intro ht N ρ op w hN0 hop hρ hV
 obtain ⟨q,k,hk⟩:=hs N _ (hρ _ _ hx)
 refine ⟨.int .i64 n,rfl,fun w' _=>?_⟩
 have h2:(Builtin.len_ #[ts] op.type #[.slice q n k]).run E.P w'=.ok (.int .i64 n) w':=by simp [Builtin.len_,run_underlying hu,Result.andThen,goInt]
 simp [execOp,hop,resolve,invoke,builtin,hk,h2]
theorem Sat.moreIm {P:Program} {fn:Func} {R:Ending→World→Prop} {W:World} {O:Nat→Nat→Prop} {im m':Mem} {D:Nat→Nat→Prop} {Rr:World→Prop} {N0 N:Nums} {B:SchT} {rg:List Rg} {w:World} (h:Sat (mkE P fn R W O im D Rr N0 B).toEnv N rg w)
  (h1:∀ k o v,m' k o=some v→w.cell? ⟨k,o,none⟩=some v) (h2:∀ (r:Nat) (g:Rg) (p:Num),rg[r]?=some g→N[r]?=some p→g.own=true→∀ j,j<p.x→m' p.b (p.o+j)=none):Sat (mkE P fn R W O m' D Rr N0 B).toEnv N rg w :=
 ⟨h.len,h.lt,h.cell,h.ext,h.room,h.disj,h.obj,h.odisj,h1,h2,h.dd,h.dlt,h.loc,h.res,h.chg,h.foot⟩
theorem At.seal {P:Program} {fn:Func} {R:Ending→World→Prop} {W:World} {O:Nat→Nat→Prop} {im m':Mem} {D:Nat→Nat→Prop} {Rr:World→Prop} {N:Nums} {B:SchT} {s s':St} {a:Act} {w:World} {ow:Bool} {cs:List SV} {q:Num} {k:Nat} {rg0:List Rg}
  (hf:FrOk fn.ntmps N s.fr a) (hS:Sat (mkE P fn R W O im D Rr [] B).toEnv N s.rg w) (hs:s.rg=rg0++[⟨ow,cs,none⟩]) (hk:k=rg0.length) (hq:N[k]?=some q) (hk':s'.rg.length=k) (h1:SubFr N (N.take k) k s.fr s'.fr)
  (h2:∀ (i:Nat) (x:Rg) (p:Num),s'.rg[i]?=some x→N[i]?=some p→∃ x0,rg0[i]?=some x0∧x.own=x0.own∧x.cells.length=x0.cells.length∧x.ob=none∧∀ (j:Nat) (c:SV),x.cells[j]?=some c→∃ c0,x0.cells[j]?=some c0∧∀ v,c0.den N=some v→c.den (N.take k)=some v)
  (hm:m'=fun k o=>match im k o with | some v=>some v | none=>if ow=true∧k=q.b∧q.o≤o∧o<q.o+cs.length then w.cell? ⟨k,o,none⟩ else none) :
  At (mkE P fn R W O m' D Rr [] B) s' a w:=by
 have hlen:=hS.len
 rw [hs,List.length_append,List.length_singleton] at hlen
 have hNt:(N.take k).length=s'.rg.length:=by rw [List.length_take,hk'];omega
 have hP:Sat (mkE P fn R W O im D Rr [] B).toEnv (N.take k) s'.rg w:=by
  refine hS.perm hNt (fun i=>i) (fun i j h=>h) fun i x p hx hp=>?_
  have hi:i<k:=by have:=(List.getElem?_eq_some_iff.1 hx).1;omega
  rw [List.getElem?_take,if_pos hi] at hp
  obtain ⟨x0,k1,k2,k3,k4,k5⟩:=h2 i x p hx hp
  have hi0:i<rg0.length:=by omega
  exact ⟨x0,by show s.rg[i]?=some x0;rw [hs,List.getElem?_append_left hi0];exact k1,hp,k2,k3,k4,k5⟩
 have hR:=hP.moreIm (m':=m') (fun k o v hv=>?_) (fun r g p hg hp ho j hj=>?_)
 ·refine ⟨N.take k,by intro r p hp;simp at hp,?_,hR⟩
  exact hf.sub h1
 ·rw [hm] at hv
  simp only at hv
  split at hv
  ·rename_i u hu
   cases hv
   exact hS.imm _ _ _ hu
  ·split at hv
   ·exact hv
   ·cases hv
 ·rw [hm]
  have e:=hP.imd r g p hg hp ho j hj
  have e':im p.b (p.o+j)=none:=e
  simp only [e']
  rw [if_neg]
  rintro ⟨ho2,hb,h3,h4⟩
  have hr:r<k:=by have:=(List.getElem?_eq_some_iff.1 hg).1;omega
  have hp':=hp
  rw [List.getElem?_take,if_pos hr] at hp'
  obtain ⟨x0,k1,k2,k3,_,_⟩:=h2 r g p hg hp'
  have hg0:s.rg[r]?=some x0:=by rw [hs,List.getElem?_append_left (by omega)];exact k1
  have hgk:s.rg[k]?=some ⟨ow,cs,none⟩:=by rw [hs,hk];simp
  have hx:=hS.ext k _ q hgk hq ho2
  have hw:(p.o+j)-q.o<Rg.wid ⟨ow,cs,none⟩ q:=by
   unfold Rg.wid
   simp only [ho2]
   simp only at hx
   first | omega | (simp;omega)
  have:=hS.disj r k x0 _ p q hg0 hp' hgk hq (by rw [←k2];exact ho) (by omega) ((p.o+j)-q.o) hw hb.symm
  omega
end Go.Eng
