import Derived.Test.YthpbefahaghbjaaGreatRe4
import Derived.Laws.BytesArg
import Derived.Lib.Bytes
import Derived.Test.YthpbefahaghbjaaGreatLaw
import Derived.Conc.LoneSelectN
import Derived.Test.YthpbefahaghbjaaGreatTab
import Derived.Lib.Overlaps
set_option maxHeartbeats 16000000
set_option maxRecDepth 100000
set_option cbv.maxSteps 100000000
namespace Go.Proofs.YthpbefahaghbjaaGreat
open Go.Eng
theorem eqU8_ok (l m:List Int) (p p2:Option Addr) (c c2:Nat) (w:World) (hs:SlR (wm w) p c 1 (l.map u8D)) (hs2:SlR (wm w) p2 c2 1 (m.map u8D)) :
  Calls Tryz.prog 48 #[.slice p l.length c,.slice p2 m.length c2] w fun e w'=>e=.returned (.bool (B (l=m)))∧Chg (fun _ _=>False) w w':=by
 obtain ⟨q,hq⟩:∃ q,q=B (l=m):=⟨_,rfl⟩
 obtain ⟨n,hn⟩:∃ n,n=l.length:=⟨_,rfl⟩
 obtain ⟨n2,hn2⟩:∃ n,n=m.length:=⟨_,rfl⟩
 have hm:=maxLen_le
 have hl:n≤maxLen:=by rw [hn];exact hs.len
 rw [←hq,←hn,←hn2]
 refine X.begin (rg:=[]) (N:=[]) (ss:=[.slv p n c,.slv p2 n2 c2]) Tryz.func48 rfl B48_ok rfl rfl Sat.std0 ?_
 obtain ⟨im,hime⟩:∃ im,im=elsewhere [] [] w:=⟨_,rfl⟩
 show X (mkE Tryz.prog Tryz.f48 _ w (InR [] []) (elsewhere [] [] w) (fun _ _=>False) (fun _=>True) [] B48) _ _
 rw [←hime]
 refine X.go T48_ok 400 _ rfl Tryz.results48 ?_
 conv=>arg 2;cbv
 refine X.cond rfl (fun hc=>?_) (fun hc=>?_)
 ·refine X.go T48_ok 400 _ rfl Tryz.results48 ?_
  conv=>arg 2;cbv
  refine X.done T48_ok rfl (fun N w' v hN hS hv=>⟨fin_bool hv ?_,hS.chg.mono fun k o _ h=>inR_nil h⟩)
  simp only [SB.T,SB.F,SI.den] at hc
  rw [hq]
  refine (B_neg fun h=>?_).symm
  subst h
  omega
 simp only [SB.T,SB.F,SI.den] at hc
 obtain rfl:n=n2:=by omega
 refine X.go T48_ok 400 _ rfl Tryz.results48 ?_
 conv=>arg 2;cbv
 refine X.loop1 (fun i:{i:Nat // i≤n∧l.take i=m.take i}=>⟨[(0,.val (.slv p n c)),(1,.val (.slv p2 n c2)),(12,.val (.int .i64 (.nat n))),(13,.val (.int .i64 (.nat i.1)))],[]⟩) (fun i=>n-i.1) (fun N a w' hN hf hS=>⟨⟨0,Nat.zero_le _,rfl⟩,?_⟩) (fun i q' hq'=>?_)
 ·exact At.again hf hS (by repeat first | exact trivial | refine ⟨⟨_,rfl,.inl ⟨rfl,rfl⟩⟩,?_⟩ | refine ⟨⟨_,rfl,.inr ⟨_,rfl,rfl⟩⟩,?_⟩ | refine ⟨⟨_,rfl,.inr ⟨_,rfl,by simp (disch:=omega) [SV.den,SI.den,wrapU,wrapD]<;>omega⟩⟩,?_⟩) trivial
 obtain ⟨i,hi,htk⟩:=i
 refine X.go T48_ok 400 _ rfl Tryz.results48 ?_
 conv=>arg 2;cbv
 refine X.cond rfl (fun hlt=>?_) (fun hge=>?_)
 ·simp only [SB.T,SI.den] at hlt
  have hlt:i<n:=by omega
  obtain ⟨x1,hx1⟩:∃ x,l[i]?=some x:=⟨_,List.getElem?_eq_getElem (by omega)⟩
  obtain ⟨x2,hx2⟩:∃ x,m[i]?=some x:=⟨_,List.getElem?_eq_getElem (by omega)⟩
  obtain ⟨b1,y1,_,hp1,hr1,hm1⟩:=hs.his hx1
  obtain ⟨b2,y2,_,hp2,hr2,hm2⟩:=hs2.his hx2
  rw [u8D.open hr1,←hime] at hm1
  rw [u8D.open hr2,←hime] at hm2
  skip
  skip
  refine X.see b1 (y1+i*1) [.int .u8 (.v x1)] (see_of hm1 rfl) (by simp) (fun N1 hN1 hNl1=>?_)
  refine X.see b2 (y2+i*1) [.int .u8 (.v x2)] (see_of hm2 rfl) (by simp) (fun N2 hN2 hNl2=>?_)
  have hg1:(N2++[(⟨b2,y2+i*1,0⟩:Num)])[1]?=some ⟨b2,y2+i*1,0⟩:=num_last hNl2
  have hg0:(N2++[(⟨b2,y2+i*1,0⟩:Num)])[0]?=some ⟨b1,y1+i*1,0⟩:=num_old (hN2 0 _ (num_last hNl1))
  refine X.goP ([(18,.own 0 0),(22,.own 1 0)]) T48_ok 400 _ rfl Tryz.results48 (fun pr fin hpr hfin=>?_)
  conv=>cbv
  refine ⟨hpr _ (ValOk.row rfl rfl (fun _=>rfl) Tryz.underlying30 Tryz.sizeOf5 hlt hp2 hg1 rfl rfl),hpr _ (ValOk.row rfl rfl (fun _=>rfl) Tryz.underlying30 Tryz.sizeOf5 hlt hp1 hg0 rfl rfl),hfin _ _ ?_⟩
  refine X.cond rfl (fun hne=>?_) (fun heq=>?_)
  ·simp only [SB.T,SB.F,SI.den] at hne
   refine X.go T48_ok 400 _ rfl Tryz.results48 ?_
   conv=>arg 2;cbv
   refine X.done T48_ok rfl (fun N w' v hN hS hv=>⟨fin_bool hv ?_,hS.chg.mono fun k o _ h=>inR_nil h⟩)
   rw [hq]
   refine (B_neg fun h=>?_).symm
   subst h
   rw [hx1] at hx2
   have:=Option.some.inj hx2
   simp_all
  ·simp only [SB.T,SB.F,SI.den] at heq
   subst heq
   refine X.go T48_ok 400 _ rfl Tryz.results48 ?_
   conv=>arg 2;cbv
   refine X.back (fun N a w' hN hf hS=>hq' ⟨i+1,by omega,take_next htk hx1 hx2⟩ a w' (by simp only;omega) ?_)
   exact At.again hf hS (by repeat first | exact trivial | refine ⟨⟨_,rfl,.inl ⟨rfl,rfl⟩⟩,?_⟩ | refine ⟨⟨_,rfl,.inr ⟨_,rfl,rfl⟩⟩,?_⟩ | refine ⟨⟨_,rfl,.inr ⟨_,rfl,by simp (disch:=omega) [SV.den,SI.den,wrapU,wrapD]<;>omega⟩⟩,?_⟩) trivial
 simp only [SB.F,SI.den] at hge
 obtain rfl:i=n:=by omega
 refine X.go T48_ok 400 _ rfl Tryz.results48 ?_
 conv=>arg 2;cbv
 refine X.done T48_ok rfl (fun N w' v hN hS hv=>⟨fin_bool hv ?_,hS.chg.mono fun k o _ h=>inR_nil h⟩)
 rw [hq]
 exact (B_pos (take_all htk hn hn2)).symm
theorem eqI64_ok (l m:List Int) (p p2:Option Addr) (c c2:Nat) (w:World) (hs:SlR (wm w) p c 1 (l.map i64D)) (hs2:SlR (wm w) p2 c2 1 (m.map i64D)) :
  Calls Tryz.prog 51 #[.slice p l.length c,.slice p2 m.length c2] w fun e w'=>e=.returned (.bool (B (l=m)))∧Chg (fun _ _=>False) w w':=by
 obtain ⟨q,hq⟩:∃ q,q=B (l=m):=⟨_,rfl⟩
 obtain ⟨n,hn⟩:∃ n,n=l.length:=⟨_,rfl⟩
 obtain ⟨n2,hn2⟩:∃ n,n=m.length:=⟨_,rfl⟩
 have hm:=maxLen_le
 have hl:n≤maxLen:=by rw [hn];exact hs.len
 rw [←hq,←hn,←hn2]
 refine X.begin (rg:=[]) (N:=[]) (ss:=[.slv p n c,.slv p2 n2 c2]) Tryz.func51 rfl B51_ok rfl rfl Sat.std0 ?_
 obtain ⟨im,hime⟩:∃ im,im=elsewhere [] [] w:=⟨_,rfl⟩
 show X (mkE Tryz.prog Tryz.f51 _ w (InR [] []) (elsewhere [] [] w) (fun _ _=>False) (fun _=>True) [] B51) _ _
 rw [←hime]
 refine X.go T51_ok 400 _ rfl Tryz.results51 ?_
 conv=>arg 2;cbv
 refine X.cond rfl (fun hc=>?_) (fun hc=>?_)
 ·refine X.go T51_ok 400 _ rfl Tryz.results51 ?_
  conv=>arg 2;cbv
  refine X.done T51_ok rfl (fun N w' v hN hS hv=>⟨fin_bool hv ?_,hS.chg.mono fun k o _ h=>inR_nil h⟩)
  simp only [SB.T,SB.F,SI.den] at hc
  rw [hq]
  refine (B_neg fun h=>?_).symm
  subst h
  omega
 simp only [SB.T,SB.F,SI.den] at hc
 obtain rfl:n=n2:=by omega
 refine X.go T51_ok 400 _ rfl Tryz.results51 ?_
 conv=>arg 2;cbv
 refine X.loop1 (fun i:{i:Nat // i≤n∧l.take i=m.take i}=>⟨[(0,.val (.slv p n c)),(1,.val (.slv p2 n c2)),(12,.val (.int .i64 (.nat n))),(13,.val (.int .i64 (.nat i.1)))],[]⟩) (fun i=>n-i.1) (fun N a w' hN hf hS=>⟨⟨0,Nat.zero_le _,rfl⟩,?_⟩) (fun i q' hq'=>?_)
 ·exact At.again hf hS (by repeat first | exact trivial | refine ⟨⟨_,rfl,.inl ⟨rfl,rfl⟩⟩,?_⟩ | refine ⟨⟨_,rfl,.inr ⟨_,rfl,rfl⟩⟩,?_⟩ | refine ⟨⟨_,rfl,.inr ⟨_,rfl,by simp (disch:=omega) [SV.den,SI.den,wrapU,wrapD]<;>omega⟩⟩,?_⟩) trivial
 obtain ⟨i,hi,htk⟩:=i
 refine X.go T51_ok 400 _ rfl Tryz.results51 ?_
 conv=>arg 2;cbv
 refine X.cond rfl (fun hlt=>?_) (fun hge=>?_)
 ·simp only [SB.T,SI.den] at hlt
  have hlt:i<n:=by omega
  obtain ⟨x1,hx1⟩:∃ x,l[i]?=some x:=⟨_,List.getElem?_eq_getElem (by omega)⟩
  obtain ⟨x2,hx2⟩:∃ x,m[i]?=some x:=⟨_,List.getElem?_eq_getElem (by omega)⟩
  obtain ⟨b1,y1,_,hp1,hr1,hm1⟩:=hs.his hx1
  obtain ⟨b2,y2,_,hp2,hr2,hm2⟩:=hs2.his hx2
  rw [i64D.open hr1,←hime] at hm1
  rw [i64D.open hr2,←hime] at hm2
  skip
  skip
  refine X.see b1 (y1+i*1) [.int .i64 (.v x1)] (see_of hm1 rfl) (by simp) (fun N1 hN1 hNl1=>?_)
  refine X.see b2 (y2+i*1) [.int .i64 (.v x2)] (see_of hm2 rfl) (by simp) (fun N2 hN2 hNl2=>?_)
  have hg1:(N2++[(⟨b2,y2+i*1,0⟩:Num)])[1]?=some ⟨b2,y2+i*1,0⟩:=num_last hNl2
  have hg0:(N2++[(⟨b2,y2+i*1,0⟩:Num)])[0]?=some ⟨b1,y1+i*1,0⟩:=num_old (hN2 0 _ (num_last hNl1))
  refine X.goP ([(18,.own 0 0),(22,.own 1 0)]) T51_ok 400 _ rfl Tryz.results51 (fun pr fin hpr hfin=>?_)
  conv=>cbv
  refine ⟨hpr _ (ValOk.row rfl rfl (fun _=>rfl) Tryz.underlying36 Tryz.sizeOf2 hlt hp2 hg1 rfl rfl),hpr _ (ValOk.row rfl rfl (fun _=>rfl) Tryz.underlying36 Tryz.sizeOf2 hlt hp1 hg0 rfl rfl),hfin _ _ ?_⟩
  refine X.cond rfl (fun hne=>?_) (fun heq=>?_)
  ·simp only [SB.T,SB.F,SI.den] at hne
   refine X.go T51_ok 400 _ rfl Tryz.results51 ?_
   conv=>arg 2;cbv
   refine X.done T51_ok rfl (fun N w' v hN hS hv=>⟨fin_bool hv ?_,hS.chg.mono fun k o _ h=>inR_nil h⟩)
   rw [hq]
   refine (B_neg fun h=>?_).symm
   subst h
   rw [hx1] at hx2
   have:=Option.some.inj hx2
   simp_all
  ·simp only [SB.T,SB.F,SI.den] at heq
   subst heq
   refine X.go T51_ok 400 _ rfl Tryz.results51 ?_
   conv=>arg 2;cbv
   refine X.back (fun N a w' hN hf hS=>hq' ⟨i+1,by omega,take_next htk hx1 hx2⟩ a w' (by simp only;omega) ?_)
   exact At.again hf hS (by repeat first | exact trivial | refine ⟨⟨_,rfl,.inl ⟨rfl,rfl⟩⟩,?_⟩ | refine ⟨⟨_,rfl,.inr ⟨_,rfl,rfl⟩⟩,?_⟩ | refine ⟨⟨_,rfl,.inr ⟨_,rfl,by simp (disch:=omega) [SV.den,SI.den,wrapU,wrapD]<;>omega⟩⟩,?_⟩) trivial
 simp only [SB.F,SI.den] at hge
 obtain rfl:i=n:=by omega
 refine X.go T51_ok 400 _ rfl Tryz.results51 ?_
 conv=>arg 2;cbv
 refine X.done T51_ok rfl (fun N w' v hN hS hv=>⟨fin_bool hv ?_,hS.chg.mono fun k o _ h=>inR_nil h⟩)
 rw [hq]
 exact (B_pos (take_all htk hn hn2)).symm
theorem eqCell_ok (l m:List CellP) (p p2:Option Addr) (c c2:Nat) (w:World) (hs:SlR (wm w) p c 4 (l.map CellP.toD)) (hs2:SlR (wm w) p2 c2 4 (m.map CellP.toD)) :
  Calls Tryz.prog 53 #[.slice p l.length c,.slice p2 m.length c2] w fun e w'=>e=.returned (.bool (B (l=m)))∧Chg (fun _ _=>False) w w':=by
 obtain ⟨q,hq⟩:∃ q,q=B (l=m):=⟨_,rfl⟩
 obtain ⟨n,hn⟩:∃ n,n=l.length:=⟨_,rfl⟩
 obtain ⟨n2,hn2⟩:∃ n,n=m.length:=⟨_,rfl⟩
 have hm:=maxLen_le
 have hl:n≤maxLen:=by rw [hn];exact hs.len
 rw [←hq,←hn,←hn2]
 refine X.begin (rg:=[]) (N:=[]) (ss:=[.slv p n c,.slv p2 n2 c2]) Tryz.func53 rfl B53_ok rfl rfl Sat.std0 ?_
 obtain ⟨im,hime⟩:∃ im,im=elsewhere [] [] w:=⟨_,rfl⟩
 show X (mkE Tryz.prog Tryz.f53 _ w (InR [] []) (elsewhere [] [] w) (fun _ _=>False) (fun _=>True) [] B53) _ _
 rw [←hime]
 refine X.go T53_ok 400 _ rfl Tryz.results53 ?_
 conv=>arg 2;cbv
 refine X.cond rfl (fun hc=>?_) (fun hc=>?_)
 ·refine X.go T53_ok 400 _ rfl Tryz.results53 ?_
  conv=>arg 2;cbv
  refine X.done T53_ok rfl (fun N w' v hN hS hv=>⟨fin_bool hv ?_,hS.chg.mono fun k o _ h=>inR_nil h⟩)
  simp only [SB.T,SB.F,SI.den] at hc
  rw [hq]
  refine (B_neg fun h=>?_).symm
  subst h
  omega
 simp only [SB.T,SB.F,SI.den] at hc
 obtain rfl:n=n2:=by omega
 refine X.go T53_ok 400 _ rfl Tryz.results53 ?_
 conv=>arg 2;cbv
 refine X.loop1 (fun i:{i:Nat // i≤n∧l.take i=m.take i}=>⟨[(0,.val (.slv p n c)),(1,.val (.slv p2 n c2)),(12,.val (.int .i64 (.nat n))),(13,.val (.int .i64 (.nat i.1)))],[]⟩) (fun i=>n-i.1) (fun N a w' hN hf hS=>⟨⟨0,Nat.zero_le _,rfl⟩,?_⟩) (fun i q' hq'=>?_)
 ·exact At.again hf hS (by repeat first | exact trivial | refine ⟨⟨_,rfl,.inl ⟨rfl,rfl⟩⟩,?_⟩ | refine ⟨⟨_,rfl,.inr ⟨_,rfl,rfl⟩⟩,?_⟩ | refine ⟨⟨_,rfl,.inr ⟨_,rfl,by simp (disch:=omega) [SV.den,SI.den,wrapU,wrapD]<;>omega⟩⟩,?_⟩) trivial
 obtain ⟨i,hi,htk⟩:=i
 refine X.go T53_ok 400 _ rfl Tryz.results53 ?_
 conv=>arg 2;cbv
 refine X.cond rfl (fun hlt=>?_) (fun hge=>?_)
 ·simp only [SB.T,SI.den] at hlt
  have hlt:i<n:=by omega
  obtain ⟨x1,hx1⟩:∃ x,l[i]?=some x:=⟨_,List.getElem?_eq_getElem (by omega)⟩
  obtain ⟨x2,hx2⟩:∃ x,m[i]?=some x:=⟨_,List.getElem?_eq_getElem (by omega)⟩
  obtain ⟨b1,y1,_,hp1,hr1,hm1⟩:=hs.his hx1
  obtain ⟨b2,y2,_,hp2,hr2,hm2⟩:=hs2.his hx2
  rw [CellP.open hr1,←hime] at hm1
  rw [CellP.open hr2,←hime] at hm2
  obtain ⟨n1,t1,a1,r1⟩:=x1
  obtain ⟨n2,t2,a2,r2⟩:=x2
  refine X.see b1 (y1+i*4) [.int .u64 (.v n1),.int .u8 (.v t1),.int .i64 (.v a1),.int .i64 (.v r1)] (see_of hm1 rfl) (by simp) (fun N1 hN1 hNl1=>?_)
  refine X.see b2 (y2+i*4) [.int .u64 (.v n2),.int .u8 (.v t2),.int .i64 (.v a2),.int .i64 (.v r2)] (see_of hm2 rfl) (by simp) (fun N2 hN2 hNl2=>?_)
  have hg1:(N2++[(⟨b2,y2+i*4,0⟩:Num)])[1]?=some ⟨b2,y2+i*4,0⟩:=num_last hNl2
  have hg0:(N2++[(⟨b2,y2+i*4,0⟩:Num)])[0]?=some ⟨b1,y1+i*4,0⟩:=num_old (hN2 0 _ (num_last hNl1))
  refine X.goP ([(18,.own 0 0),(22,.own 1 0)]) T53_ok 400 _ rfl Tryz.results53 (fun pr fin hpr hfin=>?_)
  conv=>cbv
  refine ⟨hpr _ (ValOk.row rfl rfl (fun _=>rfl) Tryz.underlying38 Tryz.sizeOf96 hlt hp2 hg1 rfl rfl),hpr _ (ValOk.row rfl rfl (fun _=>rfl) Tryz.underlying38 Tryz.sizeOf96 hlt hp1 hg0 rfl rfl),hfin _ _ ?_⟩
  refine X.cond rfl (fun hne=>?_) (fun heq=>?_)
  ·simp only [SB.T,SB.F,SI.den] at hne
   refine X.go T53_ok 400 _ rfl Tryz.results53 ?_
   conv=>arg 2;cbv
   refine X.done T53_ok rfl (fun N w' v hN hS hv=>⟨fin_bool hv ?_,hS.chg.mono fun k o _ h=>inR_nil h⟩)
   rw [hq]
   refine (B_neg fun h=>?_).symm
   subst h
   rw [hx1] at hx2
   have:=Option.some.inj hx2
   simp_all
  ·simp only [SB.T,SB.F,SI.den] at heq
   obtain ⟨rfl,rfl,rfl,rfl⟩:=heq
   refine X.go T53_ok 400 _ rfl Tryz.results53 ?_
   conv=>arg 2;cbv
   refine X.back (fun N a w' hN hf hS=>hq' ⟨i+1,by omega,take_next htk hx1 hx2⟩ a w' (by simp only;omega) ?_)
   exact At.again hf hS (by repeat first | exact trivial | refine ⟨⟨_,rfl,.inl ⟨rfl,rfl⟩⟩,?_⟩ | refine ⟨⟨_,rfl,.inr ⟨_,rfl,rfl⟩⟩,?_⟩ | refine ⟨⟨_,rfl,.inr ⟨_,rfl,by simp (disch:=omega) [SV.den,SI.den,wrapU,wrapD]<;>omega⟩⟩,?_⟩) trivial
 simp only [SB.F,SI.den] at hge
 obtain rfl:i=n:=by omega
 refine X.go T53_ok 400 _ rfl Tryz.results53 ?_
 conv=>arg 2;cbv
 refine X.done T53_ok rfl (fun N w' v hN hS hv=>⟨fin_bool hv ?_,hS.chg.mono fun k o _ h=>inR_nil h⟩)
 rw [hq]
 exact (B_pos (take_all htk hn hn2)).symm
theorem eqMark_ok (l m:List MarkP) (p p2:Option Addr) (c c2:Nat) (w:World) (hs:SlR (wm w) p c 3 (l.map MarkP.toD)) (hs2:SlR (wm w) p2 c2 3 (m.map MarkP.toD)) :
  Calls Tryz.prog 54 #[.slice p l.length c,.slice p2 m.length c2] w fun e w'=>e=.returned (.bool (B (l=m)))∧Chg (fun _ _=>False) w w':=by
 obtain ⟨q,hq⟩:∃ q,q=B (l=m):=⟨_,rfl⟩
 obtain ⟨n,hn⟩:∃ n,n=l.length:=⟨_,rfl⟩
 obtain ⟨n2,hn2⟩:∃ n,n=m.length:=⟨_,rfl⟩
 have hm:=maxLen_le
 have hl:n≤maxLen:=by rw [hn];exact hs.len
 rw [←hq,←hn,←hn2]
 refine X.begin (rg:=[]) (N:=[]) (ss:=[.slv p n c,.slv p2 n2 c2]) Tryz.func54 rfl B54_ok rfl rfl Sat.std0 ?_
 obtain ⟨im,hime⟩:∃ im,im=elsewhere [] [] w:=⟨_,rfl⟩
 show X (mkE Tryz.prog Tryz.f54 _ w (InR [] []) (elsewhere [] [] w) (fun _ _=>False) (fun _=>True) [] B54) _ _
 rw [←hime]
 refine X.go T54_ok 400 _ rfl Tryz.results54 ?_
 conv=>arg 2;cbv
 refine X.cond rfl (fun hc=>?_) (fun hc=>?_)
 ·refine X.go T54_ok 400 _ rfl Tryz.results54 ?_
  conv=>arg 2;cbv
  refine X.done T54_ok rfl (fun N w' v hN hS hv=>⟨fin_bool hv ?_,hS.chg.mono fun k o _ h=>inR_nil h⟩)
  simp only [SB.T,SB.F,SI.den] at hc
  rw [hq]
  refine (B_neg fun h=>?_).symm
  subst h
  omega
 simp only [SB.T,SB.F,SI.den] at hc
 obtain rfl:n=n2:=by omega
 refine X.go T54_ok 400 _ rfl Tryz.results54 ?_
 conv=>arg 2;cbv
 refine X.loop1 (fun i:{i:Nat // i≤n∧l.take i=m.take i}=>⟨[(0,.val (.slv p n c)),(1,.val (.slv p2 n c2)),(12,.val (.int .i64 (.nat n))),(13,.val (.int .i64 (.nat i.1)))],[]⟩) (fun i=>n-i.1) (fun N a w' hN hf hS=>⟨⟨0,Nat.zero_le _,rfl⟩,?_⟩) (fun i q' hq'=>?_)
 ·exact At.again hf hS (by repeat first | exact trivial | refine ⟨⟨_,rfl,.inl ⟨rfl,rfl⟩⟩,?_⟩ | refine ⟨⟨_,rfl,.inr ⟨_,rfl,rfl⟩⟩,?_⟩ | refine ⟨⟨_,rfl,.inr ⟨_,rfl,by simp (disch:=omega) [SV.den,SI.den,wrapU,wrapD]<;>omega⟩⟩,?_⟩) trivial
 obtain ⟨i,hi,htk⟩:=i
 refine X.go T54_ok 400 _ rfl Tryz.results54 ?_
 conv=>arg 2;cbv
 refine X.cond rfl (fun hlt=>?_) (fun hge=>?_)
 ·simp only [SB.T,SI.den] at hlt
  have hlt:i<n:=by omega
  obtain ⟨x1,hx1⟩:∃ x,l[i]?=some x:=⟨_,List.getElem?_eq_getElem (by omega)⟩
  obtain ⟨x2,hx2⟩:∃ x,m[i]?=some x:=⟨_,List.getElem?_eq_getElem (by omega)⟩
  obtain ⟨b1,y1,_,hp1,hr1,hm1⟩:=hs.his hx1
  obtain ⟨b2,y2,_,hp2,hr2,hm2⟩:=hs2.his hx2
  rw [MarkP.open hr1,←hime] at hm1
  rw [MarkP.open hr2,←hime] at hm2
  obtain ⟨s1,j1,c1x⟩:=x1
  obtain ⟨s2,j2,c2x⟩:=x2
  refine X.see b1 (y1+i*3) [.int .u8 (.v s1),.int .u64 (.v j1),.int .u64 (.v c1x)] (see_of hm1 rfl) (by simp) (fun N1 hN1 hNl1=>?_)
  refine X.see b2 (y2+i*3) [.int .u8 (.v s2),.int .u64 (.v j2),.int .u64 (.v c2x)] (see_of hm2 rfl) (by simp) (fun N2 hN2 hNl2=>?_)
  have hg1:(N2++[(⟨b2,y2+i*3,0⟩:Num)])[1]?=some ⟨b2,y2+i*3,0⟩:=num_last hNl2
  have hg0:(N2++[(⟨b2,y2+i*3,0⟩:Num)])[0]?=some ⟨b1,y1+i*3,0⟩:=num_old (hN2 0 _ (num_last hNl1))
  refine X.goP ([(18,.own 0 0),(22,.own 1 0)]) T54_ok 400 _ rfl Tryz.results54 (fun pr fin hpr hfin=>?_)
  conv=>cbv
  refine ⟨hpr _ (ValOk.row rfl rfl (fun _=>rfl) Tryz.underlying39 Tryz.sizeOf99 hlt hp2 hg1 rfl rfl),hpr _ (ValOk.row rfl rfl (fun _=>rfl) Tryz.underlying39 Tryz.sizeOf99 hlt hp1 hg0 rfl rfl),hfin _ _ ?_⟩
  refine X.cond rfl (fun hne=>?_) (fun heq=>?_)
  ·simp only [SB.T,SB.F,SI.den] at hne
   refine X.go T54_ok 400 _ rfl Tryz.results54 ?_
   conv=>arg 2;cbv
   refine X.done T54_ok rfl (fun N w' v hN hS hv=>⟨fin_bool hv ?_,hS.chg.mono fun k o _ h=>inR_nil h⟩)
   rw [hq]
   refine (B_neg fun h=>?_).symm
   subst h
   rw [hx1] at hx2
   have:=Option.some.inj hx2
   simp_all
  ·simp only [SB.T,SB.F,SI.den] at heq
   obtain ⟨rfl,rfl,rfl⟩:=heq
   refine X.go T54_ok 400 _ rfl Tryz.results54 ?_
   conv=>arg 2;cbv
   refine X.back (fun N a w' hN hf hS=>hq' ⟨i+1,by omega,take_next htk hx1 hx2⟩ a w' (by simp only;omega) ?_)
   exact At.again hf hS (by repeat first | exact trivial | refine ⟨⟨_,rfl,.inl ⟨rfl,rfl⟩⟩,?_⟩ | refine ⟨⟨_,rfl,.inr ⟨_,rfl,rfl⟩⟩,?_⟩ | refine ⟨⟨_,rfl,.inr ⟨_,rfl,by simp (disch:=omega) [SV.den,SI.den,wrapU,wrapD]<;>omega⟩⟩,?_⟩) trivial
 simp only [SB.F,SI.den] at hge
 obtain rfl:i=n:=by omega
 refine X.go T54_ok 400 _ rfl Tryz.results54 ?_
 conv=>arg 2;cbv
 refine X.done T54_ok rfl (fun N w' v hN hS hv=>⟨fin_bool hv ?_,hS.chg.mono fun k o _ h=>inR_nil h⟩)
 rw [hq]
 exact (B_pos (take_all htk hn hn2)).symm
theorem B_dec {p:Prop} [Decidable p]:decide p=B p:=by
 by_cases h:p
 ·rw [B_pos h,decide_eq_true h]
 ·rw [B_neg h,decide_eq_false h]
theorem _root_.Go.Eng.SlR.later {α:Type} {f:α→List Dt} {l:List α} {w w':World} {p:Option Addr} {c q:Nat} {im:Mem} (hs:SlR (wm w) p c q (l.map f)) (hime:im=elsewhere [] [] w) (h:∀ k o v,im k o=some v→w'.cell? ⟨k,o,none⟩=some v):SlR (wm w') p c q (l.map f) :=
 hs.mono fun k o v hv=>h k o v (by rw [hime];exact his hv)
theorem _root_.Go.Eng.RepL.later {ds:List Dt} {vs:List Value} {w w':World} {im:Mem} (hs:RepL (wm w) ds vs) (hime:im=elsewhere [] [] w) (h:∀ k o v,im k o=some v→w'.cell? ⟨k,o,none⟩=some v):RepL (wm w') ds vs :=
 hs.mono (fun k o v hv=>h k o v (by rw [hime];exact his hv))
theorem replyP_ok (a b:RepP) (va vb:List Value) (w:World) (ha:RepL (wm w) a.toD va) (hb:RepL (wm w) b.toD vb) :
  Calls Tryz.prog 50 #[.agg va.toArray,.agg vb.toArray] w fun e w'=>e=.returned (.bool (B (a=b)))∧Chg (fun _ _=>False) w w':=by
 obtain ⟨pa,ca,rfl,sa⟩:=RepP.open ha
 obtain ⟨pb,cb,rfl,sb⟩:=RepP.open hb
 clear ha hb
 obtain ⟨e1,i1,s1,l1⟩:=a
 obtain ⟨e2,i2,s2,l2⟩:=b
 obtain ⟨n1,hn1⟩:∃ n,n=l1.length:=⟨_,rfl⟩
 obtain ⟨n2,hn2⟩:∃ n,n=l2.length:=⟨_,rfl⟩
 obtain ⟨q,hq⟩:∃ q:Bool,q=B ((⟨e1,i1,s1,l1⟩:RepP)=⟨e2,i2,s2,l2⟩):=⟨_,rfl⟩
 simp only [←hn1,←hn2,←hq]
 refine X.begin (rg:=[]) (N:=[]) (ss:=[.agg [.int .i64 (.v e1),.int .u64 (.v i1),.int .i64 (.v s1),.slv pa n1 ca],.agg [.int .i64 (.v e2),.int .u64 (.v i2),.int .i64 (.v s2),.slv pb n2 cb]]) Tryz.func50 rfl B50_ok rfl rfl Sat.std0 ?_
 obtain ⟨im,hime⟩:∃ im,im=elsewhere [] [] w:=⟨_,rfl⟩
 show X (mkE Tryz.prog Tryz.f50 _ w (InR [] []) (elsewhere [] [] w) (fun _ _=>False) (fun _=>True) [] B50) _ _
 rw [←hime]
 obtain ⟨h,hh⟩:∃ h,h=B (l1=l2):=⟨_,rfl⟩
 refine X.goP ([(29,.bool (.v h))]) T50_ok 400 _ rfl Tryz.results50 (fun pr fin hpr hfin=>?_)
 conv=>cbv
 refine ⟨hpr _ (.of Tryz.call51 [.slice pa l1.length ca,.slice pb l2.length cb] (.bool h) (fun _=>by rw [←hn1,←hn2];rfl) (fun _=>rfl) fun _ w1 hi1=>hh ▸ eqI64_ok l1 l2 pa pb ca cb w1 (sa.later hime hi1) (sb.later hime hi1)),hfin _ _ ?_⟩
 refine X.done T50_ok rfl (fun N w' v hN hS hv=>⟨fin_bool hv ?_,hS.chg.mono fun k o _ h=>inR_nil h⟩)
 refine den_of ?_
 subst hh hq
 simp only [SB.T,SI.den,B_iff,RepP.mk.injEq,and_assoc]
theorem doneP_ok (a b:DoneP) (va vb:List Value) (w:World) (ha:RepL (wm w) a.toD va) (hb:RepL (wm w) b.toD vb) :
  Calls Tryz.prog 49 #[.agg va.toArray,.agg vb.toArray] w fun e w'=>e=.returned (.bool (B (a=b)))∧Chg (fun _ _=>False) w w':=by
 obtain ⟨k1,j1,r1⟩:=a
 obtain ⟨k2,j2,r2⟩:=b
 obtain ⟨_,_,rfl,ha0,ha⟩:=RepL.cons ha
 obtain ⟨_,_,rfl,ha1,sa⟩:=RepL.cons ha
 obtain ⟨_,_,rfl,hb0,hb⟩:=RepL.cons hb
 obtain ⟨_,_,rfl,hb1,sb⟩:=RepL.cons hb
 cases RepC.int' ha0;cases RepC.int' ha1;cases RepC.int' hb0;cases RepC.int' hb1
 clear ha hb ha0 ha1 hb0 hb1
 obtain ⟨pa,ca,rfl,_⟩:=RepP.open sa
 obtain ⟨pb,cb,rfl,_⟩:=RepP.open sb
 obtain ⟨n1,hn1⟩:∃ n,n=r1.vars.length:=⟨_,rfl⟩
 obtain ⟨n2,hn2⟩:∃ n,n=r2.vars.length:=⟨_,rfl⟩
 obtain ⟨q,hq⟩:∃ q:Bool,q=B ((⟨k1,j1,r1⟩:DoneP)=⟨k2,j2,r2⟩):=⟨_,rfl⟩
 obtain ⟨h,hh⟩:∃ h,h=B (r1=r2):=⟨_,rfl⟩
 rw [←hq]
 simp only [←hn1,←hn2] at sa sb ⊢
 have hc:=fun (w1:World) hi1=>replyP_ok r1 r2 _ _ w1 (sa.later (im:=elsewhere [] [] w) rfl hi1) (sb.later rfl hi1)
 rw [←hh] at hc
 clear sa sb
 obtain ⟨e1,i1,s1,l1⟩:=r1
 obtain ⟨e2,i2,s2,l2⟩:=r2
 refine X.begin (rg:=[]) (N:=[]) (ss:=[.agg [.int .u8 (.v k1),.int .u64 (.v j1),.int .i64 (.v e1),.int .u64 (.v i1),.int .i64 (.v s1),.slv pa n1 ca],.agg [.int .u8 (.v k2),.int .u64 (.v j2),.int .i64 (.v e2),.int .u64 (.v i2),.int .i64 (.v s2),.slv pb n2 cb]]) Tryz.func49 rfl B49_ok rfl rfl Sat.std0 ?_
 obtain ⟨im,hime⟩:∃ im,im=elsewhere [] [] w:=⟨_,rfl⟩
 show X (mkE Tryz.prog Tryz.f49 _ w (InR [] []) (elsewhere [] [] w) (fun _ _=>False) (fun _=>True) [] B49) _ _
 rw [←hime] at hc ⊢
 refine X.goP ([(22,.bool (.v h))]) T49_ok 400 _ rfl Tryz.results49 (fun pr fin hpr hfin=>?_)
 conv=>cbv
 refine ⟨hpr _ (.of Tryz.call50 [.agg _,.agg _] (.bool h) (fun _=>rfl) (fun _=>rfl) fun _ w1 hi1=>hc w1 hi1),hfin _ _ ?_⟩
 refine X.done T49_ok rfl (fun N w' v hN hS hv=>⟨fin_bool hv ?_,hS.chg.mono fun k o _ h=>inR_nil h⟩)
 refine den_of ?_
 subst hh hq
 simp only [SB.T,SI.den,B_iff,DoneP.mk.injEq,and_assoc]
theorem DoneP.cells {x:DoneP} {M:Mem} {vs:List Value} (h:RepL M x.toD vs):∃ p c,vs=[.int .u8 x.client,.int .u64 x.seq,.int .i64 x.reply.err,.int .u64 x.reply.inc,.int .i64 x.reply.state,.slice p x.reply.vars.length c]:=by
 obtain ⟨p,c,h,_⟩:=DoneP.open h
 exact ⟨p,c,h⟩
theorem eqDone_ok (l m:List DoneP) (p p2:Option Addr) (c c2:Nat) (w:World) (hs:SlR (wm w) p c 6 (l.map DoneP.toD)) (hs2:SlR (wm w) p2 c2 6 (m.map DoneP.toD)) :
  Calls Tryz.prog 52 #[.slice p l.length c,.slice p2 m.length c2,.func (.func 49) #[] #[]] w fun e w'=>e=.returned (.bool (B (l=m)))∧Chg (fun _ _=>False) w w':=by
 obtain ⟨q,hq⟩:∃ q,q=B (l=m):=⟨_,rfl⟩
 obtain ⟨n,hn⟩:∃ n,n=l.length:=⟨_,rfl⟩
 obtain ⟨n2,hn2⟩:∃ n,n=m.length:=⟨_,rfl⟩
 have hm:=maxLen_le
 have hl:n≤maxLen:=by rw [hn];exact hs.len
 rw [←hq,←hn,←hn2]
 refine X.begin (rg:=[]) (N:=[]) (ss:=[.slv p n c,.slv p2 n2 c2,.fn 49 []]) Tryz.func52 rfl B52_ok rfl rfl Sat.std0 ?_
 obtain ⟨im,hime⟩:∃ im,im=elsewhere [] [] w:=⟨_,rfl⟩
 show X (mkE Tryz.prog Tryz.f52 _ w (InR [] []) (elsewhere [] [] w) (fun _ _=>False) (fun _=>True) [] B52) _ _
 rw [←hime]
 refine X.go T52_ok 400 _ rfl Tryz.results52 ?_
 conv=>arg 2;cbv
 refine X.cond rfl (fun hc=>?_) (fun hc=>?_)
 ·refine X.go T52_ok 400 _ rfl Tryz.results52 ?_
  conv=>arg 2;cbv
  refine X.done T52_ok rfl (fun N w' v hN hS hv=>⟨fin_bool hv ?_,hS.chg.mono fun k o _ h=>inR_nil h⟩)
  simp only [SB.T,SB.F,SI.den] at hc
  rw [hq]
  refine (B_neg fun h=>?_).symm
  subst h
  omega
 simp only [SB.T,SB.F,SI.den] at hc
 obtain rfl:n=n2:=by omega
 refine X.go T52_ok 400 _ rfl Tryz.results52 ?_
 conv=>arg 2;cbv
 refine X.loop1 (fun i:{i:Nat // i≤n∧l.take i=m.take i}=>⟨[(0,.val (.slv p n c)),(1,.val (.slv p2 n c2)),(2,.val (.fn 49 [])),(15,.val (.slv p n c)),(16,.val (.int .i64 (.nat n))),(17,.val (.int .i64 (.nat i.1)))],[]⟩) (fun i=>n-i.1) (fun N a w' hN hf hS=>⟨⟨0,Nat.zero_le _,rfl⟩,?_⟩) (fun i q' hq'=>?_)
 ·exact At.again hf hS (by repeat first | exact trivial | refine ⟨⟨_,rfl,.inl ⟨rfl,rfl⟩⟩,?_⟩ | refine ⟨⟨_,rfl,.inr ⟨_,rfl,rfl⟩⟩,?_⟩ | refine ⟨⟨_,rfl,.inr ⟨_,rfl,by simp (disch:=omega) [SV.den,SI.den,wrapU,wrapD]<;>omega⟩⟩,?_⟩) trivial
 obtain ⟨i,hi,htk⟩:=i
 refine X.go T52_ok 400 _ rfl Tryz.results52 ?_
 conv=>arg 2;cbv
 refine X.cond rfl (fun hlt=>?_) (fun hge=>?_)
 ·simp only [SB.T,SI.den] at hlt
  have hlt:i<n:=by omega
  obtain ⟨x1,hx1⟩:∃ x,l[i]?=some x:=⟨_,List.getElem?_eq_getElem (by omega)⟩
  obtain ⟨x2,hx2⟩:∃ x,m[i]?=some x:=⟨_,List.getElem?_eq_getElem (by omega)⟩
  obtain ⟨b1,y1,v1,hp1,hr1,hm1⟩:=hs.his hx1
  obtain ⟨b2,y2,v2,hp2,hr2,hm2⟩:=hs2.his hx2
  rw [←hime] at hm1 hm2
  obtain ⟨h,hh⟩:∃ h,h=B (x1=x2):=⟨_,rfl⟩
  have hc:=fun (w1:World) hi1=>doneP_ok x1 x2 _ _ w1 (hr1.later hime hi1) (hr2.later hime hi1)
  rw [←hh] at hc
  obtain ⟨pa,ca,rfl⟩:=DoneP.cells hr1
  obtain ⟨pb,cb,rfl⟩:=DoneP.cells hr2
  obtain ⟨na,hna⟩:∃ n,n=x1.reply.vars.length:=⟨_,rfl⟩
  obtain ⟨nb,hnb⟩:∃ n,n=x2.reply.vars.length:=⟨_,rfl⟩
  rw [←hna] at hm1 hc
  rw [←hnb] at hm2 hc
  refine X.see b1 (y1+i*6) [.int .u8 (.v x1.client),.int .u64 (.v x1.seq),.int .i64 (.v x1.reply.err),.int .u64 (.v x1.reply.inc),.int .i64 (.v x1.reply.state),.slv pa na ca] (see_of hm1 rfl) (by simp) (fun N1 hN1 hNl1=>?_)
  refine X.see b2 (y2+i*6) [.int .u8 (.v x2.client),.int .u64 (.v x2.seq),.int .i64 (.v x2.reply.err),.int .u64 (.v x2.reply.inc),.int .i64 (.v x2.reply.state),.slv pb nb cb] (see_of hm2 rfl) (by simp) (fun N2 hN2 hNl2=>?_)
  have hg1:(N2++[(⟨b2,y2+i*6,0⟩:Num)])[1]?=some ⟨b2,y2+i*6,0⟩:=num_last hNl2
  have hg0:(N2++[(⟨b2,y2+i*6,0⟩:Num)])[0]?=some ⟨b1,y1+i*6,0⟩:=num_old (hN2 0 _ (num_last hNl1))
  refine X.goP ([(20,.own 0 0),(24,.own 1 0),(29,.bool (.v h))]) T52_ok 400 _ rfl Tryz.results52 (fun pr fin hpr hfin=>?_)
  conv=>cbv
  refine ⟨hpr _ (.of Tryz.call49 [.agg _,.agg _] (.bool h) (fun _=>rfl) (fun _=>rfl) fun _ w1 hi1=>hc w1 hi1),hpr _ (ValOk.row rfl rfl (fun _=>rfl) Tryz.underlying37 Tryz.sizeOf89 hlt hp2 hg1 rfl rfl),hpr _ (ValOk.row rfl rfl (fun _=>rfl) Tryz.underlying37 Tryz.sizeOf89 hlt hp1 hg0 rfl rfl),hfin _ _ ?_⟩
  refine X.cond rfl (fun hne=>?_) (fun heq=>?_)
  ·simp only [SB.T,SB.F] at hne
   refine X.go T52_ok 400 _ rfl Tryz.results52 ?_
   conv=>arg 2;cbv
   refine X.done T52_ok rfl (fun N w' v hN hS hv=>⟨fin_bool hv ?_,hS.chg.mono fun k o _ h=>inR_nil h⟩)
   rw [hq]
   refine (B_neg fun e=>?_).symm
   subst e
   rw [hx1] at hx2
   rw [hh,B_pos (Option.some.inj hx2)] at hne
   cases hne
  ·simp only [SB.T,SB.F] at heq
   rw [hh,B_iff] at heq
   subst heq
   refine X.go T52_ok 400 _ rfl Tryz.results52 ?_
   conv=>arg 2;cbv
   refine X.back (fun N a w' hN hf hS=>hq' ⟨i+1,by omega,take_next htk hx1 hx2⟩ a w' (by simp only;omega) ?_)
   exact At.again hf hS (by repeat first | exact trivial | refine ⟨⟨_,rfl,.inl ⟨rfl,rfl⟩⟩,?_⟩ | refine ⟨⟨_,rfl,.inr ⟨_,rfl,rfl⟩⟩,?_⟩ | refine ⟨⟨_,rfl,.inr ⟨_,rfl,by simp (disch:=omega) [SV.den,SI.den,wrapU,wrapD]<;>omega⟩⟩,?_⟩) trivial
 simp only [SB.F,SI.den] at hge
 obtain rfl:i=n:=by omega
 refine X.go T52_ok 400 _ rfl Tryz.results52 ?_
 conv=>arg 2;cbv
 refine X.done T52_ok rfl (fun N w' v hN hS hv=>⟨fin_bool hv ?_,hS.chg.mono fun k o _ h=>inR_nil h⟩)
 rw [hq]
 exact (B_pos (take_all htk hn hn2)).symm
theorem regSame_ok (a b:RegP) (va vb:List Value) (w:World) (ha:RepL (wm w) a.toD va) (hb:RepL (wm w) b.toD vb) :
  Calls Tryz.prog 24 #[.agg va.toArray,.agg vb.toArray] w fun e w'=>e=.returned (.bool (B (a=b)))∧Chg (fun _ _=>False) w w':=by
 obtain ⟨p1,c1,p2,c2,p3,c3,p4,c4,rfl,sa1,sa2,sa3,sa4⟩:=RegP.open ha
 obtain ⟨r1,d1,r2,d2,r3,d3,r4,d4,rfl,sb1,sb2,sb3,sb4⟩:=RegP.open hb
 clear ha hb
 obtain ⟨k1,i1,s1,v1,o1,u1,l1,m1⟩:=a
 obtain ⟨k2,i2,s2,v2,o2,u2,l2,m2⟩:=b
 simp only at sa1 sa2 sa3 sa4 sb1 sb2 sb3 sb4 ⊢
 obtain ⟨q,hq⟩:∃ q:Bool,q=B ((⟨k1,i1,s1,v1,o1,u1,l1,m1⟩:RegP)=⟨k2,i2,s2,v2,o2,u2,l2,m2⟩):=⟨_,rfl⟩
 rw [←hq]
 obtain ⟨n1,hn1⟩:∃ n,n=v1.length:=⟨_,rfl⟩
 obtain ⟨n2,hn2⟩:∃ n,n=o1.length:=⟨_,rfl⟩
 obtain ⟨n3,hn3⟩:∃ n,n=u1.length:=⟨_,rfl⟩
 obtain ⟨n4,hn4⟩:∃ n,n=m1.length:=⟨_,rfl⟩
 obtain ⟨t1,ht1⟩:∃ n,n=v2.length:=⟨_,rfl⟩
 obtain ⟨t2,ht2⟩:∃ n,n=o2.length:=⟨_,rfl⟩
 obtain ⟨t3,ht3⟩:∃ n,n=u2.length:=⟨_,rfl⟩
 obtain ⟨t4,ht4⟩:∃ n,n=m2.length:=⟨_,rfl⟩
 obtain ⟨h1,hh1⟩:∃ h,h=B (v1=v2):=⟨_,rfl⟩
 obtain ⟨h2,hh2⟩:∃ h,h=B (o1=o2):=⟨_,rfl⟩
 obtain ⟨h3,hh3⟩:∃ h,h=B (u1=u2):=⟨_,rfl⟩
 obtain ⟨h4,hh4⟩:∃ h,h=B (m1=m2):=⟨_,rfl⟩
 have e1:=fun (w1:World) hi1=>eqI64_ok v1 v2 p1 r1 c1 d1 w1 (sa1.later (im:=elsewhere [] [] w) rfl hi1) (sb1.later rfl hi1)
 have e2:=fun (w1:World) hi1=>eqDone_ok o1 o2 p2 r2 c2 d2 w1 (sa2.later (im:=elsewhere [] [] w) rfl hi1) (sb2.later rfl hi1)
 have e3:=fun (w1:World) hi1=>eqCell_ok u1 u2 p3 r3 c3 d3 w1 (sa3.later (im:=elsewhere [] [] w) rfl hi1) (sb3.later rfl hi1)
 have e4:=fun (w1:World) hi1=>eqMark_ok m1 m2 p4 r4 c4 d4 w1 (sa4.later (im:=elsewhere [] [] w) rfl hi1) (sb4.later rfl hi1)
 rw [←hn1,←ht1,←hh1] at e1
 rw [←hn2,←ht2,←hh2] at e2
 rw [←hn3,←ht3,←hh3] at e3
 rw [←hn4,←ht4,←hh4] at e4
 rw [←hn1,←hn2,←hn3,←hn4,←ht1,←ht2,←ht3,←ht4]
 clear sa1 sa2 sa3 sa4 sb1 sb2 sb3 sb4
 refine X.begin (rg:=[]) (N:=[]) (ss:=[.agg [.int .u8 (.v k1),.int .u64 (.v i1),.int .i64 (.v s1),.slv p1 n1 c1,.slv p2 n2 c2,.slv p3 n3 c3,.int .u64 (.v l1),.slv p4 n4 c4],.agg [.int .u8 (.v k2),.int .u64 (.v i2),.int .i64 (.v s2),.slv r1 t1 d1,.slv r2 t2 d2,.slv r3 t3 d3,.int .u64 (.v l2),.slv r4 t4 d4]]) Tryz.func24 rfl B24_ok rfl rfl Sat.std0 ?_
 obtain ⟨im,hime⟩:∃ im,im=elsewhere [] [] w:=⟨_,rfl⟩
 show X (mkE Tryz.prog Tryz.f24 _ w (InR [] []) (elsewhere [] [] w) (fun _ _=>False) (fun _=>True) [] B24) _ _
 rw [←hime] at e1 e2 e3 e4 ⊢
 refine X.goP ([(37,.bool (.v h1)),(45,.bool (.v h2)),(52,.bool (.v h3)),(59,.bool (.v h4))]) T24_ok 400 _ rfl Tryz.results24 (fun pr fin hpr hfin=>?_)
 conv=>cbv
 refine ⟨hpr _ (.of Tryz.call54 [.slice _ _ _,.slice _ _ _] (.bool h4) (fun _=>rfl) (fun _=>rfl) fun _ w1 hi1=>e4 w1 hi1),hpr _ (.of Tryz.call53 [.slice _ _ _,.slice _ _ _] (.bool h3) (fun _=>rfl) (fun _=>rfl) fun _ w1 hi1=>e3 w1 hi1),hpr _ (.of Tryz.call52 [.slice _ _ _,.slice _ _ _,.func _ _ _] (.bool h2) (fun _=>rfl) (fun _=>rfl) fun _ w1 hi1=>e2 w1 hi1),hpr _ (.of Tryz.call51 [.slice _ _ _,.slice _ _ _] (.bool h1) (fun _=>rfl) (fun _=>rfl) fun _ w1 hi1=>e1 w1 hi1),hfin _ _ ?_⟩
 refine X.done T24_ok rfl (fun N w' v hN hS hv=>⟨fin_bool hv ?_,hS.chg.mono fun k o _ h=>inR_nil h⟩)
 refine den_of ?_
 subst hh1 hh2 hh3 hh4 hq
 simp only [SB.T,SI.den,B_iff,RegP.mk.injEq,and_assoc]
 exact ⟨fun ⟨a,b,c,d,e,f,g,h⟩=>⟨a,b,c,e,f,g,d,h⟩,fun ⟨a,b,c,e,f,g,d,h⟩=>⟨a,b,c,d,e,f,g,h⟩⟩
theorem confSame_ok (a b:ConfP) (va vb:List Value) (w:World) (ha:RepL (wm w) a.toD va) (hb:RepL (wm w) b.toD vb) :
  Calls Tryz.prog 23 #[.agg va.toArray,.agg vb.toArray] w fun e w'=>e=.returned (.bool (B (a=b)))∧Chg (fun _ _=>False) w w':=by
 obtain ⟨p1,c1,p2,c2,rfl,sa1,sa2⟩:=ConfP.open ha
 obtain ⟨r1,d1,r2,d2,rfl,sb1,sb2⟩:=ConfP.open hb
 clear ha hb
 obtain ⟨k1,o1,m1⟩:=a
 obtain ⟨k2,o2,m2⟩:=b
 simp only at sa1 sa2 sb1 sb2 ⊢
 obtain ⟨q,hq⟩:∃ q:Bool,q=B ((⟨k1,o1,m1⟩:ConfP)=⟨k2,o2,m2⟩):=⟨_,rfl⟩
 rw [←hq]
 obtain ⟨n1,hn1⟩:∃ n,n=o1.length:=⟨_,rfl⟩
 obtain ⟨n2,hn2⟩:∃ n,n=m1.length:=⟨_,rfl⟩
 obtain ⟨t1,ht1⟩:∃ n,n=o2.length:=⟨_,rfl⟩
 obtain ⟨t2,ht2⟩:∃ n,n=m2.length:=⟨_,rfl⟩
 obtain ⟨h1,hh1⟩:∃ h,h=B (o1=o2):=⟨_,rfl⟩
 obtain ⟨h2,hh2⟩:∃ h,h=B (m1=m2):=⟨_,rfl⟩
 have e1:=fun (w1:World) hi1=>eqU8_ok o1 o2 p1 r1 c1 d1 w1 (sa1.later (im:=elsewhere [] [] w) rfl hi1) (sb1.later rfl hi1)
 have e2:=fun (w1:World) hi1=>eqU8_ok m1 m2 p2 r2 c2 d2 w1 (sa2.later (im:=elsewhere [] [] w) rfl hi1) (sb2.later rfl hi1)
 rw [←hn1,←ht1,←hh1] at e1
 rw [←hn2,←ht2,←hh2] at e2
 rw [←hn1,←hn2,←ht1,←ht2]
 clear sa1 sa2 sb1 sb2
 refine X.begin (rg:=[]) (N:=[]) (ss:=[.agg [.int .u64 (.v k1),.slv p1 n1 c1,.slv p2 n2 c2],.agg [.int .u64 (.v k2),.slv r1 t1 d1,.slv r2 t2 d2]]) Tryz.func23 rfl B23_ok rfl rfl Sat.std0 ?_
 obtain ⟨im,hime⟩:∃ im,im=elsewhere [] [] w:=⟨_,rfl⟩
 show X (mkE Tryz.prog Tryz.f23 _ w (InR [] []) (elsewhere [] [] w) (fun _ _=>False) (fun _=>True) [] B23) _ _
 rw [←hime] at e1 e2 ⊢
 refine X.goP ([(15,.bool (.v h1)),(22,.bool (.v h2))]) T23_ok 400 _ rfl Tryz.results23 (fun pr fin hpr hfin=>?_)
 conv=>cbv
 refine ⟨hpr _ (.of Tryz.call48 [.slice _ _ _,.slice _ _ _] (.bool h2) (fun _=>rfl) (fun _=>rfl) fun _ w1 hi1=>e2 w1 hi1),hpr _ (.of Tryz.call48 [.slice _ _ _,.slice _ _ _] (.bool h1) (fun _=>rfl) (fun _=>rfl) fun _ w1 hi1=>e1 w1 hi1),hfin _ _ ?_⟩
 refine X.done T23_ok rfl (fun N w' v hN hS hv=>⟨fin_bool hv ?_,hS.chg.mono fun k o _ h=>inR_nil h⟩)
 refine den_of ?_
 subst hh1 hh2 hq
 simp only [SB.T,SI.den,B_iff,ConfP.mk.injEq,and_assoc]
theorem regSameR_ok (a b:RegP) (va vb:List Value) (w:World) (ha:RepL (wm w) a.toD va) (hb:RepL (wm w) b.toD vb) :
  Calls Tryz.prog 27 #[.agg va.toArray,.agg vb.toArray] w fun e w'=>e=.returned (.bool (B (a=b)))∧Chg (fun _ _=>False) w w':=by
 obtain ⟨p1,c1,p2,c2,p3,c3,p4,c4,rfl,sa1,sa2,sa3,sa4⟩:=RegP.open ha
 obtain ⟨r1,d1,r2,d2,r3,d3,r4,d4,rfl,sb1,sb2,sb3,sb4⟩:=RegP.open hb
 clear ha hb
 obtain ⟨k1,i1,s1,v1,o1,u1,l1,m1⟩:=a
 obtain ⟨k2,i2,s2,v2,o2,u2,l2,m2⟩:=b
 simp only at sa1 sa2 sa3 sa4 sb1 sb2 sb3 sb4 ⊢
 obtain ⟨q,hq⟩:∃ q:Bool,q=B ((⟨k1,i1,s1,v1,o1,u1,l1,m1⟩:RegP)=⟨k2,i2,s2,v2,o2,u2,l2,m2⟩):=⟨_,rfl⟩
 rw [←hq]
 obtain ⟨n1,hn1⟩:∃ n,n=v1.length:=⟨_,rfl⟩
 obtain ⟨n2,hn2⟩:∃ n,n=o1.length:=⟨_,rfl⟩
 obtain ⟨n3,hn3⟩:∃ n,n=u1.length:=⟨_,rfl⟩
 obtain ⟨n4,hn4⟩:∃ n,n=m1.length:=⟨_,rfl⟩
 obtain ⟨t1,ht1⟩:∃ n,n=v2.length:=⟨_,rfl⟩
 obtain ⟨t2,ht2⟩:∃ n,n=o2.length:=⟨_,rfl⟩
 obtain ⟨t3,ht3⟩:∃ n,n=u2.length:=⟨_,rfl⟩
 obtain ⟨t4,ht4⟩:∃ n,n=m2.length:=⟨_,rfl⟩
 have hm:=maxLen_le
 have hl2:n2≤maxLen:=by rw [hn2];exact sa2.len
 have hl3:n3≤maxLen:=by rw [hn3];exact sa3.len
 have hl4:n4≤maxLen:=by rw [hn4];exact sa4.len
 obtain ⟨h1,hh1⟩:∃ h,h=B (v1=v2):=⟨_,rfl⟩
 have hv0:∀ {M:Mem} {v:List Int} {p:Option Addr} {c:Nat},SlR M p c 1 (v.map i64D)→RepL M (RepP.toD ⟨0,0,0,v⟩) [.int .i64 0,.int .u64 0,.int .i64 0,.slice p v.length c]:=fun hs=>by
  refine ⟨_,_,rfl,rfl,?_⟩
  refine ⟨_,_,rfl,rfl,?_⟩
  refine ⟨_,_,rfl,rfl,?_⟩
  exact ⟨_,_,rfl,RepC.mk (List.length_map ..).symm sz_i64 hs,rfl⟩
 have e1:=fun (w1:World) hi1=>sameReply_ok ⟨0,0,0,v1⟩ ⟨0,0,0,v2⟩ _ _ w1 (hv0 (sa1.later (im:=elsewhere [] [] w) rfl hi1)) (hv0 (sb1.later rfl hi1))
 rw [B_dec,show B ((⟨0,0,0,v1⟩:RepP)=⟨0,0,0,v2⟩)=h1 by rw [hh1];exact B_congr (by simp),←hn1,←ht1] at e1
 rw [←hn1,←hn2,←hn3,←hn4,←ht1,←ht2,←ht3,←ht4]
 refine X.begin (rg:=[]) (N:=[]) (ss:=[.agg [.int .u8 (.v k1),.int .u64 (.v i1),.int .i64 (.v s1),.slv p1 n1 c1,.slv p2 n2 c2,.slv p3 n3 c3,.int .u64 (.v l1),.slv p4 n4 c4],.agg [.int .u8 (.v k2),.int .u64 (.v i2),.int .i64 (.v s2),.slv r1 t1 d1,.slv r2 t2 d2,.slv r3 t3 d3,.int .u64 (.v l2),.slv r4 t4 d4]]) Tryz.func27 rfl B27_ok rfl rfl Sat.std0 ?_
 obtain ⟨im,hime⟩:∃ im,im=elsewhere [] [] w:=⟨_,rfl⟩
 show X (mkE Tryz.prog Tryz.f27 _ w (InR [] []) (elsewhere [] [] w) (fun _ _=>False) (fun _=>True) [] B27) _ _
 rw [←hime] at e1 ⊢
 refine X.goP ([(68,.bool (.v h1))]) T27_ok 400 _ rfl Tryz.results27 (fun pr fin hpr hfin=>?_)
 conv=>cbv
 refine ⟨hpr _ (.of Tryz.call57 [.agg _,.agg _] (.bool h1) (fun _=>rfl) (fun _=>rfl) fun _ w1 hi1=>e1 w1 hi1),hfin _ _ ?_⟩
 refine X.cond rfl (fun hc=>?_) (fun hc=>?_)
 ·refine X.go T27_ok 400 _ rfl Tryz.results27 ?_
  conv=>arg 2;cbv
  refine X.done T27_ok rfl (fun N w' v hN hS hv=>⟨fin_bool hv ?_,hS.chg.mono fun k o _ h=>inR_nil h⟩)
  simp only [SB.T,SB.F,SI.den] at hc
  rw [hq]
  refine (B_neg fun h=>?_).symm
  cases h
  rw [B_pos rfl] at hh1
  subst hh1
  simp only [hn2,ht2,hn3,ht3,hn4,ht4] at hc
  simp at hc
 simp only [SB.T,SB.F,SI.den] at hc
 obtain ⟨⟨⟨⟨⟨⟨⟨rfl,rfl⟩,rfl⟩,rfl⟩,hcn2⟩,hcn3⟩,hcn4⟩,hcv⟩:=hc
 rw [hh1,B_iff] at hcv
 subst hcv
 obtain rfl:n2=t2:=by omega
 obtain rfl:n3=t3:=by omega
 obtain rfl:n4=t4:=by omega
 refine X.go T27_ok 400 _ rfl Tryz.results27 ?_
 conv=>arg 2;cbv
 refine X.loop1 (fun i:{i:Nat // i≤n2∧o1.take i=o2.take i}=>⟨[(2,.val (.own 0 0)),(3,.val (.own 1 0)),(73,.val (.int .i64 (.nat n2))),(74,.val (.int .i64 (.nat i.1)))],[⟨true,[.int .u8 (.v k1),.int .u64 (.v i1),.int .i64 (.v s1),.slv p1 n1 c1,.slv p2 n2 c2,.slv p3 n3 c3,.int .u64 (.v l1),.slv p4 n4 c4],none⟩,⟨true,[.int .u8 (.v k1),.int .u64 (.v i1),.int .i64 (.v s1),.slv r1 t1 d1,.slv r2 n2 d2,.slv r3 n3 d3,.int .u64 (.v l1),.slv r4 n4 d4],none⟩]⟩) (fun i=>n2-i.1) (fun N a w' hN hf hS=>⟨⟨0,Nat.zero_le _,rfl⟩,?_⟩) (fun i q' hq'=>?_)
 ·exact At.again hf hS (by repeat first | exact trivial | refine ⟨⟨_,rfl,.inl ⟨rfl,rfl⟩⟩,?_⟩ | refine ⟨⟨_,rfl,.inr ⟨_,rfl,rfl⟩⟩,?_⟩ | refine ⟨⟨_,rfl,.inr ⟨_,rfl,by simp (disch:=omega) [SV.den,SI.den,wrapU,wrapD]<;>omega⟩⟩,?_⟩) (by repeat first | exact trivial | refine ⟨fun h=>h,SubC.refl rfl,rfl,?_⟩)
 obtain ⟨i,hi,htk⟩:=i
 refine X.go T27_ok 400 _ rfl Tryz.results27 ?_
 conv=>arg 2;cbv
 refine X.cond rfl (fun hlt=>?_) (fun hge=>?_)
 ·simp only [SB.T,SI.den] at hlt
  have hlt:i<n2:=by omega
  obtain ⟨x1,hx1⟩:∃ x,o1[i]?=some x:=⟨_,List.getElem?_eq_getElem (by omega)⟩
  obtain ⟨x2,hx2⟩:∃ x,o2[i]?=some x:=⟨_,List.getElem?_eq_getElem (by omega)⟩
  obtain ⟨b1,y1,w1,hp1,hr1,hm1⟩:=sa2.his hx1
  obtain ⟨b2,y2,w2,hp2,hr2,hm2⟩:=sb2.his hx2
  rw [←hime] at hm1 hm2
  obtain ⟨h,hh⟩:∃ h,h=B (x1.reply=x2.reply):=⟨_,rfl⟩
  obtain ⟨_,_,rfl,ha0,ga1⟩:=RepL.cons hr1
  obtain ⟨_,_,rfl,ha1,sa⟩:=RepL.cons ga1
  obtain ⟨_,_,rfl,hb0,gb1⟩:=RepL.cons hr2
  obtain ⟨_,_,rfl,hb1,sb⟩:=RepL.cons gb1
  cases RepC.int' ha0;cases RepC.int' ha1;cases RepC.int' hb0;cases RepC.int' hb1
  clear hr1 hr2 ga1 gb1 ha0 ha1 hb0 hb1
  have hc:=fun (w1:World) hi1=>sameReply_ok x1.reply x2.reply _ _ w1 (sa.later hime hi1) (sb.later hime hi1)
  rw [B_dec,←hh] at hc
  obtain ⟨pa,ca,rfl,_⟩:=RepP.open sa
  obtain ⟨pb,cb,rfl,_⟩:=RepP.open sb
  clear sa sb
  obtain ⟨na,hna⟩:∃ n,n=x1.reply.vars.length:=⟨_,rfl⟩
  obtain ⟨nb,hnb⟩:∃ n,n=x2.reply.vars.length:=⟨_,rfl⟩
  rw [←hna] at hm1 hc
  rw [←hnb] at hm2 hc
  refine X.see b1 (y1+i*6) [.int .u8 (.v x1.client),.int .u64 (.v x1.seq),.int .i64 (.v x1.reply.err),.int .u64 (.v x1.reply.inc),.int .i64 (.v x1.reply.state),.slv pa na ca] (see_of hm1 rfl) (by simp) (fun N1 hN1 hNl1=>?_)
  refine X.see b2 (y2+i*6) [.int .u8 (.v x2.client),.int .u64 (.v x2.seq),.int .i64 (.v x2.reply.err),.int .u64 (.v x2.reply.inc),.int .i64 (.v x2.reply.state),.slv pb nb cb] (see_of hm2 rfl) (by simp) (fun N2 hN2 hNl2=>?_)
  have hg1:(N2++[(⟨b2,y2+i*6,0⟩:Num)])[3]?=some ⟨b2,y2+i*6,0⟩:=num_last hNl2
  have hg0:(N2++[(⟨b2,y2+i*6,0⟩:Num)])[2]?=some ⟨b1,y1+i*6,0⟩:=num_old (hN2 2 _ (num_last hNl1))
  refine X.goP ([(80,.own 2 0),(86,.own 3 0),(94,.own 2 0),(100,.own 3 0),(109,.own 2 0),(115,.own 3 0),(118,.bool (.v h))]) T27_ok 400 _ rfl Tryz.results27 (fun pr fin hpr hfin=>?_)
  conv=>cbv
  have vo1:∀ {E:Env} {N0:Nums} {rg:List Rg} {f:Fr} {g:GK} {x ix:Operand} {kd:IntKind} {s:SI},evK f g x=some (.slv p2 n2 c2)→evK f g ix=some (.int kd s)→E.P=Tryz.prog→N0=(N2++[(⟨b2,y2+i*6,0⟩:Num)])→s=.nat i→ValOk E N0 rg f g (.indexAddr 37 x ix) (.own 2 0):=fun k1 k2 k3 k4 k5=>by subst k4 k5;exact ValOk.row k1 k2 (fun _=>rfl) (by rw [k3];exact Tryz.underlying37) (by rw [k3];exact Tryz.sizeOf89) hlt hp1 hg0 rfl rfl
  have vo2:∀ {E:Env} {N0:Nums} {rg:List Rg} {f:Fr} {g:GK} {x ix:Operand} {kd:IntKind} {s:SI},evK f g x=some (.slv r2 n2 d2)→evK f g ix=some (.int kd s)→E.P=Tryz.prog→N0=(N2++[(⟨b2,y2+i*6,0⟩:Num)])→s=.nat i→ValOk E N0 rg f g (.indexAddr 37 x ix) (.own 3 0):=fun k1 k2 k3 k4 k5=>by subst k4 k5;exact ValOk.row k1 k2 (fun _=>rfl) (by rw [k3];exact Tryz.underlying37) (by rw [k3];exact Tryz.sizeOf89) hlt hp2 hg1 rfl rfl
  refine ⟨hpr _ (.of Tryz.call57 [.agg _,.agg _] (.bool h) (fun _=>rfl) (fun _=>rfl) fun _ w1 hi1=>hc w1 hi1),hpr _ (vo2 rfl rfl rfl rfl rfl),hpr _ (vo1 rfl rfl rfl rfl rfl),hpr _ (vo2 rfl rfl rfl rfl rfl),hpr _ (vo1 rfl rfl rfl rfl rfl),hpr _ (vo2 rfl rfl rfl rfl rfl),hpr _ (vo1 rfl rfl rfl rfl rfl),hfin _ _ ?_⟩
  refine X.cond rfl (fun hne=>?_) (fun heq=>?_)
  ·simp only [SB.T,SB.F,SI.den] at hne
   refine X.go T27_ok 400 _ rfl Tryz.results27 ?_
   conv=>arg 2;cbv
   refine X.done T27_ok rfl (fun N w' v hN hS hv=>⟨fin_bool hv ?_,hS.chg.mono fun k o _ h=>inR_nil h⟩)
   rw [hq]
   refine (B_neg fun e=>?_).symm
   cases e
   rw [hx1] at hx2
   have:=Option.some.inj hx2
   subst this
   rw [B_pos rfl] at hh
   simp_all
  ·simp only [SB.T,SB.F,SI.den] at heq
   obtain ⟨⟨e1,e2⟩,e3⟩:=heq
   rw [hh,B_iff] at e3
   have hxx:x1=x2:=by
    cases x1;cases x2
    simp_all
   subst hxx
   refine X.go T27_ok 400 _ rfl Tryz.results27 ?_
   conv=>arg 2;cbv
   refine X.back (fun N a w' hN hf hS=>hq' ⟨i+1,by omega,take_next htk hx1 hx2⟩ a w' (by simp only;omega) ?_)
   exact At.again hf hS (by repeat first | exact trivial | refine ⟨⟨_,rfl,.inl ⟨rfl,rfl⟩⟩,?_⟩ | refine ⟨⟨_,rfl,.inr ⟨_,rfl,rfl⟩⟩,?_⟩ | refine ⟨⟨_,rfl,.inr ⟨_,rfl,by simp (disch:=omega) [SV.den,SI.den,wrapU,wrapD]<;>omega⟩⟩,?_⟩) (by repeat first | exact trivial | refine ⟨fun h=>h,SubC.refl rfl,rfl,?_⟩)
 simp only [SB.F,SI.den] at hge
 obtain rfl:n2=i:=by omega
 have halln2:=take_all htk hn2 ht2
 clear htk hi hge hq'
 refine X.go T27_ok 400 _ rfl Tryz.results27 ?_
 conv=>arg 2;cbv
 refine X.loop1 (fun i:{i:Nat // i≤n3∧u1.take i=u2.take i}=>⟨[(2,.val (.own 0 0)),(3,.val (.own 1 0)),(124,.val (.int .i64 (.nat n3))),(125,.val (.int .i64 (.nat i.1)))],[⟨true,[.int .u8 (.v k1),.int .u64 (.v i1),.int .i64 (.v s1),.slv p1 n1 c1,.slv p2 n2 c2,.slv p3 n3 c3,.int .u64 (.v l1),.slv p4 n4 c4],none⟩,⟨true,[.int .u8 (.v k1),.int .u64 (.v i1),.int .i64 (.v s1),.slv r1 t1 d1,.slv r2 n2 d2,.slv r3 n3 d3,.int .u64 (.v l1),.slv r4 n4 d4],none⟩]⟩) (fun i=>n3-i.1) (fun N a w' hN hf hS=>⟨⟨0,Nat.zero_le _,rfl⟩,?_⟩) (fun i q' hq'=>?_)
 ·exact At.again hf hS (by repeat first | exact trivial | refine ⟨⟨_,rfl,.inl ⟨rfl,rfl⟩⟩,?_⟩ | refine ⟨⟨_,rfl,.inr ⟨_,rfl,rfl⟩⟩,?_⟩ | refine ⟨⟨_,rfl,.inr ⟨_,rfl,by simp (disch:=omega) [SV.den,SI.den,wrapU,wrapD]<;>omega⟩⟩,?_⟩) (by repeat first | exact trivial | refine ⟨fun h=>h,SubC.refl rfl,rfl,?_⟩)
 obtain ⟨i,hi,htk⟩:=i
 refine X.go T27_ok 400 _ rfl Tryz.results27 ?_
 conv=>arg 2;cbv
 refine X.cond rfl (fun hlt=>?_) (fun hge=>?_)
 ·simp only [SB.T,SI.den] at hlt
  have hlt:i<n3:=by omega
  obtain ⟨x1,hx1⟩:∃ x,u1[i]?=some x:=⟨_,List.getElem?_eq_getElem (by omega)⟩
  obtain ⟨x2,hx2⟩:∃ x,u2[i]?=some x:=⟨_,List.getElem?_eq_getElem (by omega)⟩
  obtain ⟨b1,y1,w1,hp1,hr1,hm1⟩:=sa3.his hx1
  obtain ⟨b2,y2,w2,hp2,hr2,hm2⟩:=sb3.his hx2
  rw [←hime] at hm1 hm2
  rw [CellP.open hr1] at hm1
  rw [CellP.open hr2] at hm2
  obtain ⟨xa1,xb1,xc1,xd1⟩:=x1
  obtain ⟨xa2,xb2,xc2,xd2⟩:=x2
  refine X.see b1 (y1+i*4) [.int .u64 (.v xa1),.int .u8 (.v xb1),.int .i64 (.v xc1),.int .i64 (.v xd1)] (see_of hm1 rfl) (by simp) (fun N1 hN1 hNl1=>?_)
  refine X.see b2 (y2+i*4) [.int .u64 (.v xa2),.int .u8 (.v xb2),.int .i64 (.v xc2),.int .i64 (.v xd2)] (see_of hm2 rfl) (by simp) (fun N2 hN2 hNl2=>?_)
  have hg1:(N2++[(⟨b2,y2+i*4,0⟩:Num)])[3]?=some ⟨b2,y2+i*4,0⟩:=num_last hNl2
  have hg0:(N2++[(⟨b2,y2+i*4,0⟩:Num)])[2]?=some ⟨b1,y1+i*4,0⟩:=num_old (hN2 2 _ (num_last hNl1))
  refine X.goP ([(131,.own 2 0),(136,.own 3 0)]) T27_ok 400 _ rfl Tryz.results27 (fun pr fin hpr hfin=>?_)
  conv=>cbv
  refine ⟨hpr _ (ValOk.row rfl rfl (fun _=>rfl) Tryz.underlying38 Tryz.sizeOf96 hlt hp2 hg1 rfl rfl),hpr _ (ValOk.row rfl rfl (fun _=>rfl) Tryz.underlying38 Tryz.sizeOf96 hlt hp1 hg0 rfl rfl),hfin _ _ ?_⟩
  refine X.cond rfl (fun hne=>?_) (fun heq=>?_)
  ·simp only [SB.T,SB.F,SI.den] at hne
   refine X.go T27_ok 400 _ rfl Tryz.results27 ?_
   conv=>arg 2;cbv
   refine X.done T27_ok rfl (fun N w' v hN hS hv=>⟨fin_bool hv ?_,hS.chg.mono fun k o _ h=>inR_nil h⟩)
   rw [hq]
   refine (B_neg fun h=>?_).symm
   cases h
   rw [hx1] at hx2
   have:=Option.some.inj hx2
   simp_all
  ·simp only [SB.T,SB.F,SI.den] at heq
   obtain ⟨rfl,rfl,rfl,rfl⟩:=heq
   refine X.go T27_ok 400 _ rfl Tryz.results27 ?_
   conv=>arg 2;cbv
   refine X.back (fun N a w' hN hf hS=>hq' ⟨i+1,by omega,take_next htk hx1 hx2⟩ a w' (by simp only;omega) ?_)
   exact At.again hf hS (by repeat first | exact trivial | refine ⟨⟨_,rfl,.inl ⟨rfl,rfl⟩⟩,?_⟩ | refine ⟨⟨_,rfl,.inr ⟨_,rfl,rfl⟩⟩,?_⟩ | refine ⟨⟨_,rfl,.inr ⟨_,rfl,by simp (disch:=omega) [SV.den,SI.den,wrapU,wrapD]<;>omega⟩⟩,?_⟩) (by repeat first | exact trivial | refine ⟨fun h=>h,SubC.refl rfl,rfl,?_⟩)
 simp only [SB.F,SI.den] at hge
 obtain rfl:n3=i:=by omega
 have halln3:=take_all htk hn3 ht3
 clear htk hi hge hq'
 refine X.go T27_ok 400 _ rfl Tryz.results27 ?_
 conv=>arg 2;cbv
 refine X.loop1 (fun i:{i:Nat // i≤n4∧m1.take i=m2.take i}=>⟨[(2,.val (.own 0 0)),(3,.val (.own 1 0)),(142,.val (.int .i64 (.nat n4))),(143,.val (.int .i64 (.nat i.1)))],[⟨true,[.int .u8 (.v k1),.int .u64 (.v i1),.int .i64 (.v s1),.slv p1 n1 c1,.slv p2 n2 c2,.slv p3 n3 c3,.int .u64 (.v l1),.slv p4 n4 c4],none⟩,⟨true,[.int .u8 (.v k1),.int .u64 (.v i1),.int .i64 (.v s1),.slv r1 t1 d1,.slv r2 n2 d2,.slv r3 n3 d3,.int .u64 (.v l1),.slv r4 n4 d4],none⟩]⟩) (fun i=>n4-i.1) (fun N a w' hN hf hS=>⟨⟨0,Nat.zero_le _,rfl⟩,?_⟩) (fun i q' hq'=>?_)
 ·exact At.again hf hS (by repeat first | exact trivial | refine ⟨⟨_,rfl,.inl ⟨rfl,rfl⟩⟩,?_⟩ | refine ⟨⟨_,rfl,.inr ⟨_,rfl,rfl⟩⟩,?_⟩ | refine ⟨⟨_,rfl,.inr ⟨_,rfl,by simp (disch:=omega) [SV.den,SI.den,wrapU,wrapD]<;>omega⟩⟩,?_⟩) (by repeat first | exact trivial | refine ⟨fun h=>h,SubC.refl rfl,rfl,?_⟩)
 obtain ⟨i,hi,htk⟩:=i
 refine X.go T27_ok 400 _ rfl Tryz.results27 ?_
 conv=>arg 2;cbv
 refine X.cond rfl (fun hlt=>?_) (fun hge=>?_)
 ·simp only [SB.T,SI.den] at hlt
  have hlt:i<n4:=by omega
  obtain ⟨x1,hx1⟩:∃ x,m1[i]?=some x:=⟨_,List.getElem?_eq_getElem (by omega)⟩
  obtain ⟨x2,hx2⟩:∃ x,m2[i]?=some x:=⟨_,List.getElem?_eq_getElem (by omega)⟩
  obtain ⟨b1,y1,w1,hp1,hr1,hm1⟩:=sa4.his hx1
  obtain ⟨b2,y2,w2,hp2,hr2,hm2⟩:=sb4.his hx2
  rw [←hime] at hm1 hm2
  rw [MarkP.open hr1] at hm1
  rw [MarkP.open hr2] at hm2
  obtain ⟨xa1,xb1,xc1⟩:=x1
  obtain ⟨xa2,xb2,xc2⟩:=x2
  refine X.see b1 (y1+i*3) [.int .u8 (.v xa1),.int .u64 (.v xb1),.int .u64 (.v xc1)] (see_of hm1 rfl) (by simp) (fun N1 hN1 hNl1=>?_)
  refine X.see b2 (y2+i*3) [.int .u8 (.v xa2),.int .u64 (.v xb2),.int .u64 (.v xc2)] (see_of hm2 rfl) (by simp) (fun N2 hN2 hNl2=>?_)
  have hg1:(N2++[(⟨b2,y2+i*3,0⟩:Num)])[3]?=some ⟨b2,y2+i*3,0⟩:=num_last hNl2
  have hg0:(N2++[(⟨b2,y2+i*3,0⟩:Num)])[2]?=some ⟨b1,y1+i*3,0⟩:=num_old (hN2 2 _ (num_last hNl1))
  refine X.goP ([(149,.own 2 0),(154,.own 3 0)]) T27_ok 400 _ rfl Tryz.results27 (fun pr fin hpr hfin=>?_)
  conv=>cbv
  refine ⟨hpr _ (ValOk.row rfl rfl (fun _=>rfl) Tryz.underlying39 Tryz.sizeOf99 hlt hp2 hg1 rfl rfl),hpr _ (ValOk.row rfl rfl (fun _=>rfl) Tryz.underlying39 Tryz.sizeOf99 hlt hp1 hg0 rfl rfl),hfin _ _ ?_⟩
  refine X.cond rfl (fun hne=>?_) (fun heq=>?_)
  ·simp only [SB.T,SB.F,SI.den] at hne
   refine X.go T27_ok 400 _ rfl Tryz.results27 ?_
   conv=>arg 2;cbv
   refine X.done T27_ok rfl (fun N w' v hN hS hv=>⟨fin_bool hv ?_,hS.chg.mono fun k o _ h=>inR_nil h⟩)
   rw [hq]
   refine (B_neg fun h=>?_).symm
   cases h
   rw [hx1] at hx2
   have:=Option.some.inj hx2
   simp_all
  ·simp only [SB.T,SB.F,SI.den] at heq
   obtain ⟨rfl,rfl,rfl⟩:=heq
   refine X.go T27_ok 400 _ rfl Tryz.results27 ?_
   conv=>arg 2;cbv
   refine X.back (fun N a w' hN hf hS=>hq' ⟨i+1,by omega,take_next htk hx1 hx2⟩ a w' (by simp only;omega) ?_)
   exact At.again hf hS (by repeat first | exact trivial | refine ⟨⟨_,rfl,.inl ⟨rfl,rfl⟩⟩,?_⟩ | refine ⟨⟨_,rfl,.inr ⟨_,rfl,rfl⟩⟩,?_⟩ | refine ⟨⟨_,rfl,.inr ⟨_,rfl,by simp (disch:=omega) [SV.den,SI.den,wrapU,wrapD]<;>omega⟩⟩,?_⟩) (by repeat first | exact trivial | refine ⟨fun h=>h,SubC.refl rfl,rfl,?_⟩)
 simp only [SB.F,SI.den] at hge
 obtain rfl:n4=i:=by omega
 have halln4:=take_all htk hn4 ht4
 clear htk hi hge hq'
 refine X.go T27_ok 400 _ rfl Tryz.results27 ?_
 conv=>arg 2;cbv
 refine X.done T27_ok rfl (fun N w' v hN hS hv=>⟨fin_bool hv ?_,hS.chg.mono fun k o _ h=>inR_nil h⟩)
 rw [hq]
 subst halln2 halln3 halln4
 exact (B_pos rfl).symm
end Go.Proofs.YthpbefahaghbjaaGreat
namespace Go.Proofs.YthpbefahaghbjaaGreat
open Go Go.Eng Go.Lib
def U8 (l:List Int):Prop:=∀ x∈l,0≤x∧x≤255
end Go.Proofs.YthpbefahaghbjaaGreat
namespace Go.Proofs.YthpbefahaghbjaaGreat
open Go Go.Eng
def DoneP.ok (d:DoneP):Prop:=1≤d.client∧d.client≤8∧d.seq≠0∧d.reply.may=true
def CellP.ok (last:Int) (c:CellP):Prop:=1≤c.n∧c.n≤last∧c.target≤15∧0≤c.action∧c.action≤31
def MarkP.ok (m:MarkP):Prop:=m.source≤15∧m.inc≠0∧m.cell≠0
def RiseR {α:Type} (ok:α→Prop) (key:α→Int) (l:List α):Prop:=∀ (i:Nat) (x:α),l[i]?=some x→ok x∧(0<i→∀ y,l[i-1]?=some y→key y<key x)
def RegP.lists (r:RegP):Prop:=(r.vars.length≤8∧r.done.length≤8∧r.out.length≤8∧r.marks.length≤16)∧RiseR DoneP.ok DoneP.client r.done∧RiseR (CellP.ok r.last) CellP.n r.out∧RiseR MarkP.ok MarkP.source r.marks
def RegP.may (r:RegP):Prop:=(r.kind=0→r.inc=0∧r.state=0∧r.last=0∧r.vars.length=0∧r.done.length=0∧r.out.length=0∧r.marks.length=0) ∧
 (r.kind≠0→r.kind≤2∧(r.kind=2→r.state=0∧r.vars.length=0∧r.out.length=0)∧r.inc≠0∧0≤r.state∧r.state<32∧r.lists)
def ConfP.may (c:ConfP):Prop:=c.new.length≠0∧mayNP c.new∧(c.c.tmod 2=0→c.old.length=0)∧(c.c.tmod 2≠0→0<c.old.length∧mayNP c.old∧othersN c.old c.new c.old.length+othersN c.new c.old c.new.length=1)
def RegP.zero:RegP:=⟨0,0,0,[],[],[],0,[]⟩
def ConfP.zero:ConfP:=⟨0,[],[]⟩
def BalP.zero:BalP:=⟨0,0,0⟩
def mayR (kind key fence life rk:Int) (np na rz cz ls rm cm:Bool):Prop :=
 (kind≠1→np=true∧na=true∧rz=true)∧(kind≠3→fence=0)∧(kind≠4→life=0)∧(kind≠5→cz=true)∧(2<kind→key=0)∧key≤15 ∧
  (kind=1∧np=false∧ls=false∧rm=true∧(rk=0∨na=false)∨kind=2∨kind=3∧fence≠0∨kind=4∧life≠0∨kind=5∧cm=true)
def RecP.may (r:RecP):Prop:=mayR r.kind r.key r.fence r.life r.reg.kind r.promise.none r.acc.none (B (r.reg=RegP.zero)) (B (r.conf=ConfP.zero)) (r.promise.less r.acc) (B r.reg.may) (B r.conf.may)
end Go.Proofs.YthpbefahaghbjaaGreat
namespace Go.Eng
open Go
end Go.Eng
namespace Go.Proofs.YthpbefahaghbjaaGreat
open Go Go.Eng
structure SlotC where
 (has:Bool) (pc pn pl ac an al k inc st:Int) (vp:Option Addr) (vn vc:Nat) (dp:Option Addr) (dn dc:Nat) (op:Option Addr) (on oc:Nat) (last:Int) (mp:Option Addr) (mn mc:Nat)
structure ConfC where
 (c:Int) (op:Option Addr) (on oc:Nat) (np:Option Addr) (nn nc:Nat)
structure StateC where
 (slots:Nat→SlotC) (fence life:Int) (cf:ConfC)
structure RecC where
 (kind key:Int) (sl:SlotC) (fence life:Int) (cf:ConfC)
def SlotC.vals (x:SlotC):List Value:=[.bool x.has,.int .u64 x.pc,.int .u8 x.pn,.int .u32 x.pl,.int .u64 x.ac,.int .u8 x.an,.int .u32 x.al,.int .u8 x.k,.int .u64 x.inc,.int .i64 x.st,.slice x.vp x.vn x.vc,.slice x.dp x.dn x.dc,.slice x.op x.on x.oc,.int .u64 x.last,.slice x.mp x.mn x.mc]
def ConfC.vals (x:ConfC):List Value:=[.int .u64 x.c,.slice x.op x.on x.oc,.slice x.np x.nn x.nc]
def cat {α:Type} (f:Nat→List α):Nat→Nat→List α
 | _,0=>[]
 | i,n+1=>f i++cat f (i+1) n
def StateC.vals (s:StateC):List Value:=cat (fun i=>(s.slots i).vals) 0 16++(.int .u64 s.fence::.int .u32 s.life::s.cf.vals)
def RecC.vals (r:RecC):List Value:=.int .u8 r.kind::.int .u8 r.key::(r.sl.vals.tail++(.int .u64 r.fence::.int .u32 r.life::r.cf.vals))
def upd {α:Type} (f:Nat→α) (k:Nat) (x:α):Nat→α:=fun i=>bif Nat.beq i k then x else f i
def SlotC.zero:SlotC:=⟨false,0,0,0,0,0,0,0,0,0,none,0,0,none,0,0,none,0,0,0,none,0,0⟩
def ConfC.zero:ConfC:=⟨0,none,0,0,none,0,0⟩
def StateC.zero:StateC:=⟨fun _=>SlotC.zero,0,0,ConfC.zero⟩
def SlotC.put (x:SlotC):SlotC:={ x with has:=true }
def RegP.great (r:RegP):Prop:=50<r.vars.length∨50<r.done.length∨50<r.out.length∨50<r.marks.length∨∃ (i:Nat) (d:DoneP),r.done[i]?=some d∧50<d.reply.vars.length
def great (l:List RecP):Prop:=60<l.length∨∃ (i:Nat) (r:RecP),l[i]?=some r∧(r.reg.great∨80<r.conf.old.length∨80<r.conf.new.length)
theorem great06_ok (a:RegP) (va:List Value) (w:World) (ha:RepL (wm w) a.toD va) :
  Calls Tryz.prog 18 #[.agg va.toArray] w fun e w'=>e=.returned (.bool (B a.great))∧Chg (fun _ _=>False) w w':=by
 obtain ⟨p1,c1,p2,c2,p3,c3,p4,c4,rfl,sa1,sa2,sa3,sa4⟩:=RegP.open ha
 clear ha
 obtain ⟨k1,i1,s1,v1,o1,u1,l1,m1⟩:=a
 simp only at sa1 sa2 sa3 sa4 ⊢
 obtain ⟨q,hq⟩:∃ q:Bool,q=B (RegP.great ⟨k1,i1,s1,v1,o1,u1,l1,m1⟩):=⟨_,rfl⟩
 rw [←hq]
 obtain ⟨n1,hn1⟩:∃ n,n=v1.length:=⟨_,rfl⟩
 obtain ⟨n2,hn2⟩:∃ n,n=o1.length:=⟨_,rfl⟩
 obtain ⟨n3,hn3⟩:∃ n,n=u1.length:=⟨_,rfl⟩
 obtain ⟨n4,hn4⟩:∃ n,n=m1.length:=⟨_,rfl⟩
 have hm:=maxLen_le
 have hl2:n2≤maxLen:=by rw [hn2];exact sa2.len
 rw [←hn1,←hn2,←hn3,←hn4]
 refine X.begin (rg:=[]) (N:=[]) (ss:=[.agg [.int .u8 (.v k1),.int .u64 (.v i1),.int .i64 (.v s1),.slv p1 n1 c1,.slv p2 n2 c2,.slv p3 n3 c3,.int .u64 (.v l1),.slv p4 n4 c4]]) Tryz.func18 rfl B18_ok rfl rfl Sat.std0 ?_
 obtain ⟨im,hime⟩:∃ im,im=elsewhere [] [] w:=⟨_,rfl⟩
 show X (mkE Tryz.prog Tryz.f18 _ w (InR [] []) (elsewhere [] [] w) (fun _ _=>False) (fun _=>True) [] B18) _ _
 rw [←hime]
 refine X.go T18_ok 400 _ rfl Tryz.results18 ?_
 conv=>arg 2;cbv
 refine X.cond rfl (fun hc=>?_) (fun hc=>?_)
 ·refine X.go T18_ok 400 _ rfl Tryz.results18 ?_
  conv=>arg 2;cbv
  refine X.done T18_ok rfl (fun N w' v hN hS hv=>⟨fin_bool hv ?_,hS.chg.mono fun k o _ h=>inR_nil h⟩)
  simp only [SB.T,SB.F,SI.den] at hc
  rw [hq]
  refine (B_pos ?_).symm
  simp only [RegP.great,←hn1,←hn2,←hn3,←hn4]
  omega
 simp only [SB.T,SB.F,SI.den] at hc
 refine X.go T18_ok 400 _ rfl Tryz.results18 ?_
 conv=>arg 2;cbv
 refine X.loop1 (fun i:{i:Nat // i≤n2∧∀ (j:Nat) (x:DoneP),j<i→o1[j]?=some x→x.reply.vars.length≤50}=>⟨[(1,.val (.own 0 0)),(28,.val (.int .i64 (.nat n2))),(29,.val (.int .i64 (.nat i.1)))],[⟨true,[.int .u8 (.v k1),.int .u64 (.v i1),.int .i64 (.v s1),.slv p1 n1 c1,.slv p2 n2 c2,.slv p3 n3 c3,.int .u64 (.v l1),.slv p4 n4 c4],none⟩]⟩) (fun i=>n2-i.1) (fun N a w' hN hf hS=>⟨⟨0,Nat.zero_le _,fun j x hj=>by omega⟩,?_⟩) (fun i q' hq'=>?_)
 ·exact At.again hf hS (by repeat first | exact trivial | refine ⟨⟨_,rfl,.inl ⟨rfl,rfl⟩⟩,?_⟩ | refine ⟨⟨_,rfl,.inr ⟨_,rfl,rfl⟩⟩,?_⟩ | refine ⟨⟨_,rfl,.inr ⟨_,rfl,by simp (disch:=omega) [SV.den,SI.den,wrapU,wrapD]<;>omega⟩⟩,?_⟩) (by repeat first | exact trivial | refine ⟨fun h=>h,SubC.refl rfl,rfl,?_⟩)
 obtain ⟨i,hi,hno⟩:=i
 refine X.go T18_ok 400 _ rfl Tryz.results18 ?_
 conv=>arg 2;cbv
 refine X.cond rfl (fun hlt=>?_) (fun hge=>?_)
 ·simp only [SB.T,SI.den] at hlt
  have hlt:i<n2:=by omega
  obtain ⟨x1,hx1⟩:∃ x,o1[i]?=some x:=⟨_,List.getElem?_eq_getElem (by omega)⟩
  obtain ⟨b1,y1,w1,hp1,hr1,hm1⟩:=sa2.his hx1
  rw [←hime] at hm1
  obtain ⟨pa,ca,rfl⟩:=DoneP.cells hr1
  obtain ⟨na,hna⟩:∃ n,n=x1.reply.vars.length:=⟨_,rfl⟩
  rw [←hna] at hm1
  refine X.see b1 (y1+i*6) [.int .u8 (.v x1.client),.int .u64 (.v x1.seq),.int .i64 (.v x1.reply.err),.int .u64 (.v x1.reply.inc),.int .i64 (.v x1.reply.state),.slv pa na ca] (see_of hm1 rfl) (by simp) (fun N1 hN1 hNl1=>?_)
  have hg1:(N1++[(⟨b1,y1+i*6,0⟩:Num)])[1]?=some ⟨b1,y1+i*6,0⟩:=num_last hNl1
  refine X.goP ([(35,.own 1 0)]) T18_ok 400 _ rfl Tryz.results18 (fun pr fin hpr hfin=>?_)
  conv=>cbv
  refine ⟨hpr _ (ValOk.row rfl rfl (fun _=>rfl) Tryz.underlying37 Tryz.sizeOf89 hlt hp1 hg1 rfl rfl),hfin _ _ ?_⟩
  refine X.cond rfl (fun hbad=>?_) (fun hok=>?_)
  ·simp only [SB.T,SB.F,SI.den] at hbad
   refine X.go T18_ok 400 _ rfl Tryz.results18 ?_
   conv=>arg 2;cbv
   refine X.done T18_ok rfl (fun N w' v hN hS hv=>⟨fin_bool hv ?_,hS.chg.mono fun k o _ h=>inR_nil h⟩)
   rw [hq]
   refine (B_pos ?_).symm
   exact .inr (.inr (.inr (.inr ⟨i,x1,hx1,by omega⟩)))
  ·simp only [SB.T,SB.F,SI.den] at hok
   refine X.go T18_ok 400 _ rfl Tryz.results18 ?_
   conv=>arg 2;cbv
   refine X.back (fun N a w' hN hf hS=>hq' ⟨i+1,by omega,fun j x' hj hj'=>?_⟩ a w' (by simp only;omega) ?_)
   ·by_cases e:j=i
    ·subst e
     rw [hx1] at hj'
     obtain rfl:=Option.some.inj hj'
     omega
    ·exact hno j x' (by omega) hj'
   exact At.again hf hS (by repeat first | exact trivial | refine ⟨⟨_,rfl,.inl ⟨rfl,rfl⟩⟩,?_⟩ | refine ⟨⟨_,rfl,.inr ⟨_,rfl,rfl⟩⟩,?_⟩ | refine ⟨⟨_,rfl,.inr ⟨_,rfl,by simp (disch:=omega) [SV.den,SI.den,wrapU,wrapD]<;>omega⟩⟩,?_⟩) (by repeat first | exact trivial | refine ⟨fun h=>h,SubC.refl rfl,rfl,?_⟩)
 simp only [SB.F,SI.den] at hge
 obtain rfl:n2=i:=by omega
 refine X.go T18_ok 400 _ rfl Tryz.results18 ?_
 conv=>arg 2;cbv
 refine X.done T18_ok rfl (fun N w' v hN hS hv=>⟨fin_bool hv ?_,hS.chg.mono fun k o _ h=>inR_nil h⟩)
 rw [hq]
 refine (B_neg fun h=>?_).symm
 simp only [RegP.great,←hn1,←hn2,←hn3,←hn4] at h
 rcases h with h | h | h | h | ⟨j,d,hj,hd⟩
 ·omega
 ·omega
 ·omega
 ·omega
 ·have:=hno j d (by have:=(List.getElem?_eq_some_iff.1 hj).1;omega) hj
  omega
theorem RecP.cells {x:RecP} {M:Mem} {vs:List Value} (h:RepL M x.toD vs):∃ r:RecC,vs=r.vals∧RepL M x.reg.toD (r.sl.vals.drop 7)∧RepL M x.conf.toD r.cf.vals∧r.kind=x.kind∧r.key=x.key:=by
 obtain ⟨rv,cv,rfl,hr,hc⟩:=RecP.open h
 obtain ⟨p1,c1,p2,c2,p3,c3,p4,c4,rfl,_⟩:=RegP.open hr
 obtain ⟨p5,c5,p6,c6,rfl,_⟩:=ConfP.open hc
 exact ⟨⟨x.kind,x.key,⟨true,x.promise.count,x.promise.node,x.promise.life,x.acc.count,x.acc.node,x.acc.life,x.reg.kind,x.reg.inc,x.reg.state,p1,_,c1,p2,_,c2,p3,_,c3,x.reg.last,p4,_,c4⟩,x.fence,x.life,⟨x.conf.c,p5,_,c5,p6,_,c6⟩⟩,rfl,hr,hc,rfl,rfl⟩
theorem SlotD.cells {x:SlotD} {M:Mem} {c:SlotC} (h:RepL M x.toD c.vals):c.has=x.has∧c.pc=x.promise.count∧c.pn=x.promise.node∧c.pl=x.promise.life∧c.ac=x.acc.count∧c.an=x.acc.node∧c.al=x.acc.life∧RepL M x.reg.toD (c.vals.drop 7):=by
 obtain ⟨rv,he,hr⟩:=SlotD.open h
 simp only [SlotC.vals,List.cons.injEq,Value.bool.injEq,Value.int.injEq,true_and] at he
 obtain ⟨h1,h2,h3,h4,h5,h6,h7,h8⟩:=he
 exact ⟨h1,h2,h3,h4,h5,h6,h7,by rw [←h8] at hr;exact hr⟩
structure StP where
 (slots:Nat→SlotD) (fence life:Int) (conf:ConfP)
def StP.same (x y:StP):Prop:=(∀ i,i<16→x.slots i=y.slots i)∧x.fence=y.fence∧x.life=y.life∧x.conf=y.conf
end Go.Proofs.YthpbefahaghbjaaGreat
namespace Go.Eng
open Go
end Go.Eng
namespace Go.Proofs.YthpbefahaghbjaaGreat
open Go Go.Eng
def StP.zero:StP:=⟨fun _=>⟨false,BalP.zero,BalP.zero,RegP.zero⟩,0,0,ConfP.zero⟩
end Go.Proofs.YthpbefahaghbjaaGreat
namespace Go.Proofs.YthpbefahaghbjaaGreat
open Go Go.Eng Go.Lib
end Go.Proofs.YthpbefahaghbjaaGreat
namespace Go.Proofs.YthpbefahaghbjaaGreat
open Go Go.Eng Go.ChangeShapes Go.WideShapes Go.ChangeAt Go.RowKit
theorem _root_.Go.Eng.FitL.cons {P:Program} {m:Nat} {k:CK} {ks:List CK} {ds:List Dt} (h:FitL P m (k::ks) ds):∃ d r,ds=d::r∧FitC P m k d∧FitL P m ks r:=by simpa only [FitL] using h
theorem _root_.Go.Eng.FitL.nil {P:Program} {m:Nat} {ds:List Dt} (h:FitL P m [] ds):ds=[]:=by simpa only [FitL] using h
theorem _root_.Go.Eng.FitC.int' {P:Program} {m:Nat} {k:IntKind} {d:Dt} (h:FitC P m (.int k) d):∃ z,d=.int k z∧(Lit.int k z).wf=true:=by
 cases m<;>simpa only [FitC] using h
theorem _root_.Go.Eng.FitC.slice' {P:Program} {m e:Nat} {ks:List CK} (hk:kindsOf P 8 e=some ks) {d:Dt} (h:FitC P (m+1) (.slice e) d):∃ rows,d=.list rows∧∀ r∈rows,FitL P m ks r:=by
 simp only [FitC] at h
 obtain ⟨rows,rfl,_,h⟩:=h
 exact ⟨rows,rfl,fun r hr=>by
  obtain ⟨ks',h1,h2⟩:=h r hr
  rw [hk] at h1
  cases h1
  exact h2⟩
theorem u8_wf {z:Int} (h:(Lit.int .u8 z).wf=true):0≤z∧z≤255:=by
 simp [Lit.wf,IntKind.min,IntKind.max,IntKind.bits,IntKind.signed] at h
 omega
def i64K:List CK:=[.int .i64]
def u8K:List CK:=[.int .u8]
def doneK:List CK:=[.int .u8,.int .u64,.int .i64,.int .u64,.int .i64,.slice 2]
def cellK:List CK:=[.int .u64,.int .u8,.int .i64,.int .i64]
def markK:List CK:=[.int .u8,.int .u64,.int .u64]
theorem k_i64:kindsOf Tryz.prog 8 2=some i64K:=by kernel_rfl
theorem k_u8:kindsOf Tryz.prog 8 5=some u8K:=by kernel_rfl
theorem k_done:kindsOf Tryz.prog 8 89=some doneK:=by kernel_rfl
theorem k_cell:kindsOf Tryz.prog 8 96=some cellK:=by kernel_rfl
theorem k_mark:kindsOf Tryz.prog 8 99=some markK:=by kernel_rfl
theorem fit_i64 {m:Nat} {d:Dt} (h:FitC Tryz.prog (m+1) (.slice 2) d):∃ l:List Int,d=.list (l.map i64D):=by
 obtain ⟨rows,rfl,hrows⟩:=h.slice' k_i64
 obtain ⟨xs,rfl,_⟩:=map_of (f:=i64D) (p:=fun _=>True) (rows:=rows) fun r hr=>by
  obtain ⟨_,_,rfl,h1,h2⟩:=FitL.cons (hrows r hr)
  obtain ⟨z,rfl,_⟩:=h1.int'
  cases FitL.nil h2
  exact ⟨z,rfl,trivial⟩
 exact ⟨xs,rfl⟩
theorem fit_u8 {m:Nat} {d:Dt} (h:FitC Tryz.prog (m+1) (.slice 5) d):∃ l:List Int,d=.list (l.map u8D)∧U8 l:=by
 obtain ⟨rows,rfl,hrows⟩:=h.slice' k_u8
 obtain ⟨xs,rfl,hx⟩:=map_of (f:=u8D) (p:=fun z=>0≤z∧z≤255) (rows:=rows) fun r hr=>by
  obtain ⟨_,_,rfl,h1,h2⟩:=FitL.cons (hrows r hr)
  obtain ⟨z,rfl,hz⟩:=h1.int'
  cases FitL.nil h2
  exact ⟨z,rfl,u8_wf hz⟩
 exact ⟨xs,rfl,hx⟩
theorem fit_done {m:Nat} {d:Dt} (h:FitC Tryz.prog (m+2) (.slice 89) d):∃ l:List DoneP,d=.list (l.map DoneP.toD):=by
 obtain ⟨rows,rfl,hrows⟩:=h.slice' k_done
 obtain ⟨xs,rfl,_⟩:=map_of (f:=DoneP.toD) (p:=fun _=>True) (rows:=rows) fun r hr=>by
  obtain ⟨_,_,rfl,h1,h⟩:=FitL.cons (hrows r hr)
  obtain ⟨_,_,rfl,h2,h⟩:=FitL.cons h
  obtain ⟨_,_,rfl,h3,h⟩:=FitL.cons h
  obtain ⟨_,_,rfl,h4,h⟩:=FitL.cons h
  obtain ⟨_,_,rfl,h5,h⟩:=FitL.cons h
  obtain ⟨_,_,rfl,h6,h⟩:=FitL.cons h
  cases FitL.nil h
  obtain ⟨z1,rfl,_⟩:=h1.int'
  obtain ⟨z2,rfl,_⟩:=h2.int'
  obtain ⟨z3,rfl,_⟩:=h3.int'
  obtain ⟨z4,rfl,_⟩:=h4.int'
  obtain ⟨z5,rfl,_⟩:=h5.int'
  obtain ⟨l,rfl⟩:=fit_i64 h6
  exact ⟨⟨z1,z2,⟨z3,z4,z5,l⟩⟩,rfl,trivial⟩
 exact ⟨xs,rfl⟩
theorem fit_cell {m:Nat} {d:Dt} (h:FitC Tryz.prog (m+1) (.slice 96) d):∃ l:List CellP,d=.list (l.map CellP.toD):=by
 obtain ⟨rows,rfl,hrows⟩:=h.slice' k_cell
 obtain ⟨xs,rfl,_⟩:=map_of (f:=CellP.toD) (p:=fun _=>True) (rows:=rows) fun r hr=>by
  obtain ⟨_,_,rfl,h1,h⟩:=FitL.cons (hrows r hr)
  obtain ⟨_,_,rfl,h2,h⟩:=FitL.cons h
  obtain ⟨_,_,rfl,h3,h⟩:=FitL.cons h
  obtain ⟨_,_,rfl,h4,h⟩:=FitL.cons h
  cases FitL.nil h
  obtain ⟨z1,rfl,_⟩:=h1.int'
  obtain ⟨z2,rfl,_⟩:=h2.int'
  obtain ⟨z3,rfl,_⟩:=h3.int'
  obtain ⟨z4,rfl,_⟩:=h4.int'
  exact ⟨⟨z1,z2,z3,z4⟩,rfl,trivial⟩
 exact ⟨xs,rfl⟩
theorem fit_mark {m:Nat} {d:Dt} (h:FitC Tryz.prog (m+1) (.slice 99) d):∃ l:List MarkP,d=.list (l.map MarkP.toD):=by
 obtain ⟨rows,rfl,hrows⟩:=h.slice' k_mark
 obtain ⟨xs,rfl,_⟩:=map_of (f:=MarkP.toD) (p:=fun _=>True) (rows:=rows) fun r hr=>by
  obtain ⟨_,_,rfl,h1,h⟩:=FitL.cons (hrows r hr)
  obtain ⟨_,_,rfl,h2,h⟩:=FitL.cons h
  obtain ⟨_,_,rfl,h3,h⟩:=FitL.cons h
  cases FitL.nil h
  obtain ⟨z1,rfl,_⟩:=h1.int'
  obtain ⟨z2,rfl,_⟩:=h2.int'
  obtain ⟨z3,rfl,_⟩:=h3.int'
  exact ⟨⟨z1,z2,z3⟩,rfl,trivial⟩
 exact ⟨xs,rfl⟩
structure MsgP where
 (kind sender to key conf:Int) (b:BalP) (ok:Bool) (acc:BalP) (reg:RegP) (next:BalP) (max:Int)
def MsgP.toD (x:MsgP):List Dt:=.int .u8 x.kind::.int .u8 x.sender::.int .u8 x.to::.int .u8 x.key::.int .u64 x.conf::(x.b.toD++.bool x.ok::(x.acc.toD++(x.reg.toD++(x.next.toD++[.int .u64 x.max]))))
theorem _root_.Go.Eng.FitC.bool' {P:Program} {m:Nat} {d:Dt} (h:FitC P m .bool d):∃ b,d=.bool b:=by
 cases m<;>simpa only [FitC] using h
theorem MsgP.open {x:MsgP} {M:Mem} {vs:List Value} (h:RepL M x.toD vs):∃ rv,vs=.int .u8 x.kind::.int .u8 x.sender::.int .u8 x.to::.int .u8 x.key::.int .u64 x.conf::.int .u64 x.b.count::.int .u8 x.b.node::.int .u32 x.b.life::.bool x.ok::.int .u64 x.acc.count::.int .u8 x.acc.node::.int .u32 x.acc.life::(rv++[.int .u64 x.next.count,.int .u8 x.next.node,.int .u32 x.next.life,.int .u64 x.max])∧RepL M x.reg.toD rv:=by
 unfold MsgP.toD at h
 obtain ⟨_,_,rfl,h1,h⟩:=RepL.cons h
 obtain ⟨_,_,rfl,h2,h⟩:=RepL.cons h
 obtain ⟨_,_,rfl,h3,h⟩:=RepL.cons h
 obtain ⟨_,_,rfl,h4,h⟩:=RepL.cons h
 obtain ⟨_,_,rfl,h5,h⟩:=RepL.cons h
 obtain ⟨bv,_,rfl,h6,h⟩:=h.split
 obtain ⟨_,_,rfl,h7,h⟩:=RepL.cons h
 obtain ⟨av,_,rfl,h8,h⟩:=h.split
 obtain ⟨rv,_,rfl,h9,h⟩:=h.split
 obtain ⟨nv,_,rfl,h10,h⟩:=h.split
 obtain ⟨_,_,rfl,h11,h⟩:=RepL.cons h
 have hn:=RepL.nil h;subst hn
 rw [RepC.int' h1,RepC.int' h2,RepC.int' h3,RepC.int' h4,RepC.int' h5,RepC.bool' h7,RepC.int' h11,BalP.open h6,BalP.open h8,BalP.open h10]
 exact ⟨rv,by simp,h9⟩
structure OpP where
 (kind key client seq action party arg source inc cell:Int)
def OpP.vals (o:OpP):List Value:=[.int .u8 o.kind,.int .u8 o.key,.int .u8 o.client,.int .u64 o.seq,.int .i64 o.action,.int .i64 o.party,.int .i64 o.arg,.int .u8 o.source,.int .u64 o.inc,.int .u64 o.cell]
end Go.Proofs.YthpbefahaghbjaaGreat
namespace Go.Eng
open Go
abbrev ZT:=List (Nat × SV)
def lookZ:ZT→Nat→Option SV
 | [],_=>none
 | (k,v)::r,t=>bif Nat.beq k t then some v else lookZ r t
def ZOk (P:Program):ZT→Prop
 | []=>True
 | (t,s)::r=>(∃ z,(∀ w,(zeroValue t).run P w=.ok z w)∧∀ N,s.den N=some z)∧ZOk P r
theorem ZOk.look {P:Program}:∀ {Z:ZT},ZOk P Z→∀ {t:Nat} {s:SV},lookZ Z t=some s→∃ z,(∀ w,(zeroValue t).run P w=.ok z w)∧∀ N,s.den N=some z
 | [],_,t,s,h=>by simp [lookZ] at h
 | (k,v)::r,⟨h1,h2⟩,t,s,h=>by
  simp only [lookZ] at h
  by_cases hk:k=t
  ·subst hk;simp at h;subst h;exact h1
  ·simp only [beq_ne hk,cond_false] at h;exact ZOk.look h2 h
end Go.Eng
namespace Go.Proofs.YthpbefahaghbjaaGreat
open Go Go.Eng
theorem told_run {P:Program} {F:FT} (hF:FTok P F) {g:Nat} {fi:FI} (hg:FOk P g fi) (m:Nat) (ss:List SV) {args:Array Value} (ha:SV.denL [] ss=some args.toList) (hle:Nat.ble args.size fi.n=true) {l:List SV} {v:Value} (hv:∀ N,(resV l).den N=some v)
  (h:runEnds fi.T fi.rs (runC F true m fi.T fi.B fi.n fi.rs [] [.code fi.body] ⟨argFr ss 0,[]⟩)=some l) (w:World):Calls P g args w fun e w'=>e=.returned v∧Chg (fun _ _=>False) w w' :=
 (runR hF hg m true ss ha hle h w).mono fun e w' ⟨N,u,h1,h2,h3⟩=>by
  rw [hv N] at h2
  cases h2
  exact ⟨h1,h3⟩
structure MsgC where
 (k s t y c b1 b2 b3:Int) (ok:Bool) (a1 a2 a3 rk ri rs:Int) (p1:Option Addr) (n1 c1:Nat) (p2:Option Addr) (n2 c2:Nat) (p3:Option Addr) (n3 c3:Nat) (rl:Int) (p4:Option Addr) (n4 c4:Nat) (x1 x2 x3 mx:Int)
def MsgC.vals (m:MsgC):List Value:=[.int .u8 m.k,.int .u8 m.s,.int .u8 m.t,.int .u8 m.y,.int .u64 m.c,.int .u64 m.b1,.int .u8 m.b2,.int .u32 m.b3,.bool m.ok,.int .u64 m.a1,.int .u8 m.a2,.int .u32 m.a3,.int .u8 m.rk,.int .u64 m.ri,.int .i64 m.rs,.slice m.p1 m.n1 m.c1,.slice m.p2 m.n2 m.c2,.slice m.p3 m.n3 m.c3,.int .u64 m.rl,.slice m.p4 m.n4 m.c4,.int .u64 m.x1,.int .u8 m.x2,.int .u32 m.x3,.int .u64 m.mx]
def MsgC.reg (m:MsgC):List Value:=[.int .u8 m.rk,.int .u64 m.ri,.int .i64 m.rs,.slice m.p1 m.n1 m.c1,.slice m.p2 m.n2 m.c2,.slice m.p3 m.n3 m.c3,.int .u64 m.rl,.slice m.p4 m.n4 m.c4]
theorem MsgP.cells {x:MsgP} {M:Mem} {vs:List Value} (h:RepL M x.toD vs):∃ m:MsgC,vs=m.vals∧RepL M x.reg.toD m.reg:=by
 obtain ⟨rv,rfl,hr⟩:=MsgP.open h
 obtain ⟨p1,c1,p2,c2,p3,c3,p4,c4,rfl,_⟩:=RegP.open hr
 exact ⟨⟨x.kind,x.sender,x.to,x.key,x.conf,x.b.count,x.b.node,x.b.life,x.ok,x.acc.count,x.acc.node,x.acc.life,x.reg.kind,x.reg.inc,x.reg.state,p1,_,c1,p2,_,c2,p3,_,c3,x.reg.last,p4,_,c4,x.next.count,x.next.node,x.next.life,x.max⟩,rfl,hr⟩
end Go.Proofs.YthpbefahaghbjaaGreat
namespace Go.Proofs.YthpbefahaghbjaaGreat
open Go Go.Eng Go.Sort
theorem freshRet_of {P:Program} {fn:Func} {Q:Ending→World→Prop} {W:World} {im:Mem} {D:Nat→Nat→Prop} {Rr:World→Prop} {N0:Nums} {B:SchT} {N:Nums} {rg:List Rg} {w':World} {r n z:Nat} {cs cs':List SV} {v:Value} (hS:Sat (mkE P fn Q W (InR [] []) im D Rr N0 B).toEnv N rg w') (hr:rg[r]?=some ⟨true,cs,none⟩) (h0:0<cs.length) (hp:cs' <+: cs) (hc:∀ c∈cs',∀ (N N':Nums) (v:Value),c.den N=some v→c.den N'=some v)
  (hv:(SV.osl r 0 n z none).den N=some v):FreshRet cs' n z W (.returned v) w':=by
 obtain ⟨p,hpn⟩:∃ p,N[r]?=some p:=⟨_,List.getElem?_eq_getElem (by rw [hS.len];exact (List.getElem?_eq_some_iff.1 hr).1)⟩
 simp only [SV.den,hpn,Num.cap,Nat.add_zero,Nat.sub_zero,Option.some.injEq] at hv
 have hx:=hS.ext r _ p hr hpn rfl
 simp only at hx
 have hl:=hp.length_le
 refine ⟨p.b,p.o,p.x,by rw [←hv],?_,by omega,by omega,fun j c hj=>?_,fun j hj=>hS.room r _ p hr hpn rfl j hj,hS.chg.none⟩
 ·rcases hS.foot r _ p hr hpn rfl with h | h
  ·exact h
  ·exact absurd (h 0 (by omega)) (fun h=>inR_nil h)
 ·obtain ⟨t,rfl⟩:=hp
  have hjl:=(List.getElem?_eq_some_iff.1 hj).1
  obtain ⟨v,h1,h2⟩:=hS.cell r _ p hr hpn j c (by rw [List.getElem?_append_left hjl];exact hj)
  exact ⟨v,hc c (List.mem_of_getElem? hj) _ _ v h1,h2⟩
theorem Sat.addIm {E:Env} {N:Nums} {rg:List Rg} {w:World} (h:Sat E N rg w) {b y x:Nat} {cs:List SV} (h0:0<cs.length) (hcs:∀ (j:Nat) (c:SV),cs[j]?=some c→∃ v,(∀ N,c.den N=some v)∧E.im b (y+j)=some v):Sat E (N++[⟨b,y,x⟩]) (rg++[⟨false,cs,none⟩]) w:=by
 have hle:N.le (N++[⟨b,y,x⟩]):=Nums.le_append _ _
 have hb:b<w.heap.size:=by
  obtain ⟨v,_,h2⟩:=hcs 0 _ (List.getElem?_eq_getElem h0)
  exact World.block_lt_of_cell? _ _ (h.imm _ _ _ h2)
 refine ⟨by simp [h.len],?_,?_,?_,?_,?_,?_,?_,h.imm,?_,?_,h.dlt,h.loc,h.res,h.chg,?_⟩
 ·intro i q hq
  rcases Nat.lt_or_ge i N.length with hi | hi
  ·rw [List.getElem?_append_left hi] at hq;exact h.lt i q hq
  ·rw [List.getElem?_append_right hi] at hq
   have hz:i-N.length=0:=by
    have:=(List.getElem?_eq_some_iff.1 hq).1
    simp at this;omega
   rw [hz] at hq;simp at hq;subst hq;exact hb
 ·intro i g q hg hq j d hj
  rcases get_snoc h.len hg hq with ⟨a,b⟩ | ⟨_,rfl,rfl⟩
  ·obtain ⟨v,h1,h2⟩:=h.cell i g q a b j d hj
   exact ⟨v,SV.den_mono hle d h1,h2⟩
  ·obtain ⟨v,h1,h2⟩:=hcs j d hj
   exact ⟨v,h1 _,h.imm _ _ _ h2⟩
 ·intro i g q hg hq ho
  rcases get_snoc h.len hg hq with ⟨a,b⟩ | ⟨_,rfl,rfl⟩
  ·exact h.ext i g q a b ho
  ·cases ho
 ·intro i g q hg hq ho
  rcases get_snoc h.len hg hq with ⟨a,b⟩ | ⟨_,rfl,rfl⟩
  ·exact h.room i g q a b ho
  ·cases ho
 ·intro i i' g g' q q' hg hq hg' hq' ho hne j hj hb'
  rcases get_snoc h.len hg hq with ⟨a1,a2⟩ | ⟨a0,rfl,rfl⟩
  ·rcases get_snoc h.len hg' hq' with ⟨b1,b2⟩ | ⟨b0,rfl,rfl⟩
   ·exact h.disj i i' g g' q q' a1 a2 b1 b2 ho hne j hj hb'
   ·have hj:j<cs.length:=hj
    obtain ⟨v,_,k2⟩:=hcs j _ (List.getElem?_eq_getElem hj)
    simp only at hb' ⊢
    rcases Nat.lt_or_ge (y+j) q.o with k | k
    ·exact .inl k
    ·rcases Nat.lt_or_ge (y+j) (q.o+q.x) with k3 | k3
     ·have:=h.imd i g q a1 a2 ho (y+j-q.o) (by omega)
      rw [show q.o+(y+j-q.o)=y+j by omega,←hb',k2] at this
      cases this
     ·exact .inr k3
  ·cases ho
 ·intro i g q ob hg hq ho
  rcases get_snoc h.len hg hq with ⟨a,b⟩ | ⟨_,rfl,rfl⟩
  ·obtain ⟨⟨o',k1,k2⟩,k3⟩:=h.obj i g q ob a b ho
   exact ⟨⟨o',Ob.den_mono hle ob k1,k2⟩,k3⟩
  ·simp at ho
 ·intro i i' g g' q q' hg hq hg' hq' ho ho' hne
  rcases get_snoc h.len hg hq with ⟨a1,a2⟩ | ⟨a0,rfl,rfl⟩
  ·rcases get_snoc h.len hg' hq' with ⟨b1,b2⟩ | ⟨b0,rfl,rfl⟩
   ·exact h.odisj i i' g g' q q' a1 a2 b1 b2 ho ho' hne
   ·simp at ho'
  ·simp at ho
 ·intro i g q hg hq ho
  rcases get_snoc h.len hg hq with ⟨a,b⟩ | ⟨_,rfl,rfl⟩
  ·exact h.imd i g q a b ho
  ·cases ho
 ·intro i g q hg hq ho
  rcases get_snoc h.len hg hq with ⟨a,b⟩ | ⟨_,rfl,rfl⟩
  ·exact h.dd i g q a b ho
  ·cases ho
 ·intro i g q hg hq ho
  rcases get_snoc h.len hg hq with ⟨a,b⟩ | ⟨_,rfl,rfl⟩
  ·exact h.foot i g q a b ho
  ·cases ho
theorem X.addIm {E:Ctx} {k:List It} {f:Fr} (f':Fr) {rg:List Rg} (b y:Nat) {cs:List SV} (h0:0<cs.length) (hc:∀ (j:Nat) (c:SV),cs[j]?=some c→∃ v,(∀ N,c.den N=some v)∧E.im b (y+j)=some v)
  (hs:∀ N:Nums,N.length=rg.length→Sh N (N++[⟨b,y,cs.length⟩]) f f') (h:X E k ⟨f',rg++[⟨false,cs,none⟩]⟩):X E k ⟨f,rg⟩:=by
 refine X.conv fun N a w hN hf hS=>?_
 exact ⟨E,⟨f',rg++[⟨false,cs,none⟩]⟩,rfl,rfl,rfl,rfl,⟨N++[⟨b,y,cs.length⟩],hN.trans (Nums.le_append _ _),hf.sh (hs N hS.len),Sat.addIm hS h0 hc⟩,h⟩
theorem ofL_one (x key:Int):ofL #[x] key=[x]:=by
 have h1:ofL #[x] key≠[]:=ofL_pos (by simp)
 have h2:∀ y∈ofL #[x] key,y=x:=fun y hy=>by simpa using ofL_sub hy
 have h3:=ofL_lt #[x] key
 cases hl:ofL #[x] key with
 | nil=>exact absurd hl h1
 | cons a t =>
  rw [hl] at h2 h3
  have ha:=h2 a (by simp)
  cases t with
  | nil=>rw [ha]
  | cons b t =>
   have hb:=h2 b (by simp)
   have:=(List.pairwise_cons.1 h3).1 b (by simp)
   omega
theorem mayC_one:mayC 0 #[] #[3]:=⟨by simp,fun i hi=>by
 have:i=0:=by simp at hi;omega
 subst this
 exact ⟨by decide,fun h=>absurd h (by decide)⟩,by simp⟩
theorem quoC_8:quoC 0 #[] #[3] 1 8:=⟨mayC_one,by rw [ofL_one];unfold maj;decide,fun h=>absurd h (by decide)⟩
theorem none_ok (a b c:Int) (w:World):Calls Tryz.prog 19 #[.agg #[.int .u64 a,.int .u8 b,.int .u32 c]] w fun e w'=>e=.returned (.bool (decide (a=0∧b=0∧c=0)))∧Chg (fun _ _=>False) w w':=by
 refine X.begin (rg:=[]) (N:=[]) (ss:=[.agg [.int .u64 (.v a),.int .u8 (.v b),.int .u32 (.v c)]]) Tryz.func19 rfl B19_ok rfl rfl Sat.std0 ?_
 refine X.go T19_ok 400 _ rfl Tryz.results19 ?_
 conv=>arg 2;cbv
 refine X.done T19_ok rfl (fun N w' v hN hS hv=>⟨fin_bool hv ?_,hS.chg.mono fun k o _ h=>inR_nil h⟩)
 simp only [SB.den,SI.den]
 by_cases h1:a=0<;>by_cases h2:b=0<;>by_cases h3:c=0<;>simp [h1,h2,h3]
end Go.Proofs.YthpbefahaghbjaaGreat
namespace Go.Eng
open Go
end Go.Eng
namespace Go.Proofs.YthpbefahaghbjaaGreat
open Go Go.Eng Go.Sort
def InM (p:Option Addr) (n:Nat) (l:List Int) (M:Mem):Prop:=n=l.length∧(0<n→∃ b y,p=some ⟨b,y,none⟩∧∀ j,j<n→M b (y+j)=some (.int .u8 l[j]!))
theorem InM.nil (p:Option Addr) (M:Mem):InM p 0 [] M:=⟨rfl,fun h=>absurd h (Nat.lt_irrefl 0)⟩
section
variable {P:Program} {fn:Func} {Q:Ending→World→Prop} {w w':World} {im:Mem} {D:Nat→Nat→Prop} {Rr:World→Prop} {B:SchT} {N:Nums} {rg rg0:List Rg} {p1:Num} {g0 g1:Rg} {b y K n r:Nat} {cs cs':List SV} {v:Value}
end
end Go.Proofs.YthpbefahaghbjaaGreat
