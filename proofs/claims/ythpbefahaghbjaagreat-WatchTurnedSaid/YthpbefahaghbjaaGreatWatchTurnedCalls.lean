import Derived.Test.YthpbefahaghbjaaGreatRg5
import Derived.Test.YthpbefahaghbjaaGreatWbE
import Derived.Test.YthpbefahaghbjaaGreatOb1
set_option maxHeartbeats 16000000
set_option maxRecDepth 100000
set_option cbv.maxSteps 100000000
namespace Go.Proofs.YthpbefahaghbjaaGreat
open Go Go.Eng Go.Sort
def D2 (a b:WM) (s t:WP) (k o:Nat):Prop:=a.D s.seen.length k o∨b.D t.seen.length k o
structure W2 (a b:WM) (s t:WP) (Mo:Mem) (w:World):Prop where
 l:WatchR a s Mo w
 r:WatchR b t Mo w
theorem W2.loc {a b:WM} {s t:WP} {Mo:Mem}:Eng.Loc (D2 a b s t) (W2 a b s t Mo):=fun u u' hs hle h=>⟨WatchR.loc u u' (fun k o hd=>hs k o (.inl hd)) hle h.l,WatchR.loc u u' (fun k o hd=>hs k o (.inr hd)) hle h.r⟩
theorem W2.swap {a b:WM} {s t:WP} {Mo:Mem} {w:World} (h:W2 a b s t Mo w):W2 b a t s Mo w:=⟨h.r,h.l⟩
structure StepD (a b a' b':WM) (s t s' t':WP) (Mo Mo':Mem) (w w':World):Prop where
 pa:a'.P 0=a.P 0
 pb:b'.P 0=b.P 0
 w2:W2 a' b' s' t' Mo' w'
 mo:∀ k o v,Mo' k o=some v→w'.cell? ⟨k,o,none⟩=some v
 chg:Chg (D2 a b s t) w w'
 d:∀ k o,D2 a' b' s' t' k o→(D2 a b s t k o∨w.heap.size≤k)∧There w' k o
 dis:∀ k o,a'.D s'.seen.length k o→¬b'.D t'.seen.length k o
 old:∀ k o v,Mo k o=some v→Mo' k o=some v
 new:∀ k o v,Mo' k o=some v→Mo k o=some v∨w.heap.size≤k
 md:∀ k o,D2 a' b' s' t' k o→Mo' k o=none
theorem StepD.swap {a b a' b':WM} {s t s' t':WP} {Mo Mo':Mem} {w w':World} (h:StepD a b a' b' s t s' t' Mo Mo' w w'):StepD b a b' a' t s t' s' Mo Mo' w w' :=
 ⟨h.pb,h.pa,h.w2.swap,h.mo,h.chg.mono fun _ _ _ hd=>hd.symm,fun k o hd=>⟨(h.d k o hd.symm).1.imp Or.symm id,(h.d k o hd.symm).2⟩,fun k o h1 h2=>h.dis k o h2 h1,h.old,h.new,fun k o hd=>h.md k o hd.symm⟩
theorem W2.step {a b:WM} {s t s':WP} {Mo:Mem} {w w':World} {e:Ending} (h:W2 a b s t Mo w) (hmo:∀ k o v,Mo k o=some v→w.cell? ⟨k,o,none⟩=some v) (dis:∀ k o,a.D s.seen.length k o→¬b.D t.seen.length k o) (hs:SawRet a s s' Mo w e w') :
  e=.returned (.tuple #[])∧∃ a' Mo',StepD a b a' b s t s' t Mo Mo' w w':=by
 obtain ⟨he,a',Mo',h1,h2,h3,h4,h5,h6⟩:=hs
 have hb:WatchAt b t Mo w:=h.r.at hmo
 have ha:WatchAt a s Mo w:=h.l.at hmo
 have hb':WatchAt b t Mo w':=hb.chg h3 (fun k o h1 h2=>dis k o h2 h1) (fun k o v hk hd=>by rw [ha.md k o hd] at hk;cases hk)
 have hbm:∀ k o,b.D t.seen.length k o→Mo' k o=none:=fun k o hd=>by
  cases hm:Mo' k o with
  | none=>rfl
  | some v =>
   rcases h6 k o v hm with h7 | h7
   ·rw [hb.md k o hd] at h7;cases h7
   ·have:=hb.lt hd;omega
 refine ⟨he,a',Mo',h2,rfl,⟨h1.r,hb'.r.mono h5 hbm⟩,h1.mo,h3.mono fun _ _ _ hd=>.inl hd,fun k o hd=>?_,fun k o hd1 hd2=>?_,h5,h6,fun k o hd=>?_⟩
 ·rcases hd with hd | hd
  ·exact ⟨(h4 k o hd).imp .inl id,h1.there hd⟩
  ·exact ⟨.inl (.inr hd),hb'.there hd⟩
 ·rcases h4 k o hd1 with h7 | h7
  ·exact dis k o h7 hd2
  ·have:=hb.lt hd2;omega
 ·rcases hd with hd | hd
  ·exact h1.md k o hd
  ·exact hbm k o hd
def TelP.z (x:TelP):TelP:=⟨x.node,x.c,x.key,x.s,0⟩
theorem TelP.Ok.z {x:TelP} (h:x.Ok):x.z.Ok:=⟨h.c0,h.co,h.cn,h.reg,h.nd,h.kw,h.a1,h.a2,h.a3⟩
def rotL {α:Type} (l:List α) (k:Nat):List α:=l.drop k++l.take k
theorem rotL_mem {α:Type} (l:List α) (k:Nat) (t:α):t∈l↔t∈rotL l k:=by
 unfold rotL
 rw [List.mem_append,or_comm,←List.mem_append,List.take_append_drop]
theorem rotL_len {α:Type} (l:List α) (k:Nat):(rotL l k).length=l.length:=by
 unfold rotL
 rw [List.length_append,Nat.add_comm,←List.length_append,List.take_append_drop]
theorem rotL_get {α:Type} (l:List α) {k i:Nat} (hk:k<l.length) (hi:i<l.length):(rotL l k)[i]?=l[(i+k) % l.length]?:=by
 unfold rotL
 by_cases h:i<l.length-k
 ·rw [List.getElem?_append_left (by rw [List.length_drop];exact h),List.getElem?_drop,Nat.mod_eq_of_lt (by omega),Nat.add_comm]
 ·have hm:(i+k) % l.length=i+k-l.length:=by
   rw [Nat.mod_eq_sub_mod (by omega),Nat.mod_eq_of_lt (by omega)]
  rw [List.getElem?_append_right (by rw [List.length_drop];omega),List.length_drop,List.getElem?_take,if_pos (by omega),hm]
  congr 1
  omega
theorem foldT {α β:Type} (f:β→α→β) (z:β) {l:List α} {i:Nat} {x:α} (h:l[i]?=some x):(l.take (i+1)).foldl f z=f ((l.take i).foldl f z) x:=by
 rw [List.take_add_one,h,List.foldl_append]
 rfl
theorem X.frame {P:Program} {fn:Func} {Q:Ending→World→Prop} {W:World} {O:Nat→Nat→Prop} {im:Mem} {D:Nat→Nat→Prop} {Rr:World→Prop} {B:SchT} {k:List It} {s:St} (f':Fr) (h1:∀ N:Nums,SubFr N (N.take s.rg.length) s.rg.length s.fr f') (h2:∀ N:Nums,SubRg N (N.take s.rg.length) s.rg.length s.rg s.rg)
  (h:X (mkE P fn Q W O im D Rr [] B) k ⟨f',s.rg⟩):X (mkE P fn Q W O im D Rr [] B) k s :=
 X.conv fun N a w hN hf hS=>⟨_,⟨f',s.rg⟩,rfl,rfl,rfl,rfl,At.mk hN hf hS (Nat.zero_le _) (h1 N) (h2 N) (fun _ _ _ h=>h) hS.loc hS.res,h⟩
structure TurnG (l0 r0:List TelP) (base av ay bv by':Nat) (im0:Mem) where
 (i:Nat) (a b:WM) (s t:WP) (Mo:Mem)
 hi:i≤l0.length
 oks:s.Ok i
 okt:t.Ok i
 far:∀ k o,D2 a b s t k o→base≤k
 md:∀ k o,D2 a b s t k o→Mo k o=none
 dis:∀ k o,a.D s.seen.length k o→¬b.D t.seen.length k o
 im:∀ k o v,im0 k o=some v→Mo k o=some v
 pa:av=(a.P 0).b∧ay=(a.P 0).o
 pb:bv=(b.P 0).b∧by'=(b.P 0).o
 es:s=(l0.take i).foldl WP.saw WP.zero
 et:t=(r0.take i).foldl WP.saw WP.zero
theorem turned_far (l:List TelP) (po:Option Addr) (cp:Nat) (bz key:Int) (w:World) (hs:SlR (Eng.wm w) po cp 21 (l.map TelP.toD)) (hg:great24 l∨l=[]) :
  Calls Tryz.prog 4 #[.slice po l.length cp,.int .u8 bz,.int .u8 key] w fun e w'=>e=.returned (.bool true)∧Chg (fun _ _=>False) w w':=by
 obtain ⟨n,hn⟩:∃ n,n=l.length:=⟨_,rfl⟩
 obtain ⟨gb,hgb⟩:∃ b,b=B (great24 l):=⟨_,rfl⟩
 have hor:gb=true∨n=0:=by
  rcases hg with h | h
  ·exact .inl (by rw [hgb,B_pos h])
  ·exact .inr (by rw [hn,h];rfl)
 rw [←hn]
 refine X.begin (rg:=[]) (N:=[]) (ss:=[.slv po n cp,.int .u8 (.v bz),.int .u8 (.v key)]) Tryz.func4 rfl B4_ok rfl rfl Sat.std0 ?_
 refine X.goX ([(14,.bool (.v gb))]) ([]) T4_ok 400 _ rfl Tryz.results4 (fun pr pe fin hpr hpe hfin=>?_)
 conv=>cbv
 refine ⟨hpr _ (.of Tryz.call6 [.slice po n cp] (.bool gb) (fun _=>rfl) (fun _=>rfl) fun _ w1 hi1=>?_),hfin _ _ ?_⟩
 ·have hgr:=great24_ok l po cp w1 (hs.mono fun k o v hk=>hi1 _ _ _ (his hk))
  rw [←hn,←hgb] at hgr
  exact hgr
 clear hpr hpe hfin
 refine X.cond rfl (fun _=>?_) (fun hF=>?_)
 ·refine X.go T4_ok 400 _ rfl Tryz.results4 ?_
  conv=>arg 2;cbv
  refine X.call rfl rfl rfl rfl Tryz.call7 (fun N w1 args hN hS ha=>?_)
  obtain rfl:([]:List Value)=args:=Option.some.inj ha
  refine (awake24_ok w1).mono fun e w2 ⟨he,hc⟩=>⟨_,he,Goes.same (r:=.bool (.lit true)) hN hS hc rfl rfl ?_⟩
  refine X.go T4_ok 400 _ rfl Tryz.results4 ?_
  conv=>arg 2;cbv
  refine X.done T4_ok rfl (fun N w' v hN hS hv=>?_)
  exact ⟨fin_bool hv rfl,hS.chg.none⟩
 ·exfalso
  simp only [SB.F,SB.T,SB.den,SI.den] at hF
  rcases hor with h | h<;>simp [h] at hF
theorem turned_in (l:List TelP) (po:Option Addr) (cp bz:Nat) (key:Int) (w:World) (hs:SlR (Eng.wm w) po cp 21 (l.map TelP.toD)) (hng:¬great24 l) (hl0:l≠[]) (hok:∀ x∈l,x.Ok) (hl60:l.length≤60) (hbz:bz<256) :
  Calls Tryz.prog 4 #[.slice po l.length cp,.int .u8 bz,.int .u8 key] w fun e w'=>e=.returned (.bool true)∧Chg (fun _ _=>False) w w':=by
 obtain ⟨Q,hQ⟩:∃ Q:Ending→World→Prop,Q=fun e w'=>e=.returned (.bool true)∧Chg (fun _ _=>False) w w':=⟨_,rfl⟩
 rw [←hQ]
 obtain ⟨n,hn⟩:∃ n,n=l.length:=⟨_,rfl⟩
 have hn0:0<n:=by rw [hn];exact List.length_pos_iff.2 hl0
 rw [←hn]
 refine X.begin (rg:=[]) (N:=[]) (ss:=[.slv po n cp,.int .u8 (.nat bz),.int .u8 (.v key)]) Tryz.func4 rfl B4_ok rfl rfl Sat.std0 ?_
 obtain ⟨im,hime⟩:∃ im,im=elsewhere [] [] w:=⟨_,rfl⟩
 have him:∀ k o v,Eng.wm w k o=some v→im k o=some v:=fun k o v h=>by rw [hime];exact his h
 have himn:∀ k o,w.heap.size≤k→im k o=none:=fun k o h=>by
  rw [hime];unfold elsewhere
  rw [if_neg inR_nil]
  cases hc:w.cell? ⟨k,o,none⟩ with
  | none=>rfl
  | some v=>have:=World.block_lt_of_cell? _ _ hc;simp only at this;omega
 show X (mkE Tryz.prog Tryz.f4 Q w (InR [] []) (elsewhere [] [] w) (fun _ _=>False) (fun _=>True) [] B4) _ _
 rw [←hime]
 refine X.goX ([(14,.bool (.lit false))]) ([]) T4_ok 400 _ rfl Tryz.results4 (fun pr pe fin hpr hpe hfin=>?_)
 conv=>cbv
 refine ⟨hpr _ (.of Tryz.call6 [.slice po n cp] (.bool false) (fun _=>rfl) (fun _=>rfl) fun _ w1 hi1=>?_),hfin _ _ ?_⟩
 ·have hgr:=great24_ok l po cp w1 (hs.mono fun k o v hk=>hi1 _ _ _ (him _ _ _ hk))
  rw [←hn,B_neg hng] at hgr
  exact hgr
 clear hpr hpe hfin
 refine X.cond rfl (fun hT=>?_) (fun _=>?_)
 ·exfalso
  simp only [SB.F,SB.T,SB.den,SI.den] at hT
  omega
 obtain ⟨kk,hkk⟩:∃ k,k=bz % n:=⟨_,rfl⟩
 have hkn:kk<n:=by rw [hkk];exact Nat.mod_lt _ hn0
 refine X.goX ([(25,.int .i64 (.nat kk))]) ([]) T4_ok 400 _ rfl Tryz.results4 (fun pr pe fin hpr hpe hfin=>?_)
 conv=>cbv
 refine ⟨hpr _ (vk_rem rfl rfl fun _=>⟨?_,?_⟩),hfin _ _ ?_⟩
 ·simp only [SI.den];omega
 ·have hw:IntKind.i64.wrap (bz:Int)=bz:=by simp [IntKind.wrap,IntKind.bits,IntKind.signed];omega
  simp only [SI.den,hw]
  rw [hkk,Int.tmod_eq_emod_of_nonneg (by omega)]
  omega
 clear hpr hpe hfin
 refine X.call rfl rfl rfl rfl Tryz.call8 (fun N w1 args hN hS ha=>?_)
 obtain rfl:([]:List Value)=args:=Option.some.inj ha
 refine (wnew_ok im w1 hS.imm).mono fun e w2 ⟨wa,he,hat,hnew,hc⟩=>⟨_,he,?_⟩
 have hws:w.heap.size≤w1.heap.size:=hS.chg.size
 obtain ⟨av,hav⟩:∃ z,z=(wa.P 0).b:=⟨_,rfl⟩
 obtain ⟨ay,hay⟩:∃ z,z=(wa.P 0).o:=⟨_,rfl⟩
 refine Goes.turn (r:=.ext av ay 0) (wa.D 0) (WatchR wa WP.zero im) hN hS (hc.mono fun _ _ _ h=>h.elim) (fun _ _ h=>h.elim) (fun _ _ h=>h.elim) (fun g hg=>by simp at hg) (fun k o hk=>⟨.inr (hnew k o hk),hat.there hk⟩) (WatchR.loc (wm:=wa) (s:=WP.zero) (Mo:=im)) hat.r (by rw [hav,hay];rfl) rfl ?_
 have hOa:∀ k o,wa.D 0 k o→w.heap.size≤k:=fun k o h=>Nat.le_trans hws (hnew k o h)
 clear ha he hc hS hN hat hnew hws
 show X (mkE Tryz.prog Tryz.f4 Q w (InR [] []) im (wa.D 0) (WatchR wa WP.zero im) [] B4) _ _
 refine X.go T4_ok 400 _ rfl Tryz.results4 ?_
 conv=>arg 2;cbv
 refine X.call rfl rfl rfl rfl Tryz.call8 (fun N w1 args hN hS ha=>?_)
 obtain rfl:([]:List Value)=args:=Option.some.inj ha
 refine (wnew_ok im w1 hS.imm).mono fun e w2 ⟨wb,he,hat,hnew,hc⟩=>⟨_,he,?_⟩
 have hws:w.heap.size≤w1.heap.size:=hS.chg.size
 obtain ⟨bv,hbv⟩:∃ z,z=(wb.P 0).b:=⟨_,rfl⟩
 obtain ⟨by',hby⟩:∃ z,z=(wb.P 0).o:=⟨_,rfl⟩
 have hata:WatchAt wa WP.zero im w1:=hS.res.at hS.imm
 have hata2:WatchAt wa WP.zero im w2:=hata.chg hc (fun _ _ _ h=>h) (fun _ _ _ _ h=>h)
 refine Goes.turn (r:=.ext bv by' 0) (D2 wa wb WP.zero WP.zero) (W2 wa wb WP.zero WP.zero im) hN hS (hc.mono fun _ _ _ h=>h.elim) (fun k o h=>.inl (hOa k o h)) (fun k o h=>himn k o (hOa k o h)) (fun g hg=>by simp at hg) (fun k o hk=>?_) W2.loc ⟨hata2.r,hat.r⟩ (by rw [hbv,hby];rfl) rfl ?_
 ·rcases hk with hk | hk
  ·exact ⟨.inl hk,hata2.there hk⟩
  ·exact ⟨.inr (hnew k o hk),hat.there hk⟩
 have hO2:∀ k o,D2 wa wb WP.zero WP.zero k o→w.heap.size≤k:=fun k o h=>h.elim (hOa k o) fun h=>Nat.le_trans hws (hnew k o h)
 have hdis:∀ k o,wa.D 0 k o→¬wb.D 0 k o:=fun k o h1 h2=>by
  have:=hata.lt (k:=k) (o:=o) h1
  have:=hnew k o h2
  omega
 have hmd2:∀ k o,D2 wa wb WP.zero WP.zero k o→im k o=none:=fun k o h=>himn k o (hO2 k o h)
 clear ha he hc hS hN hat hnew hws hata hata2 himn hOa
 obtain ⟨l0,hl0e⟩:∃ m,m=l.map TelP.z:=⟨_,rfl⟩
 obtain ⟨r0,hr0e⟩:∃ m,m=rotL l0 kk:=⟨_,rfl⟩
 have hl0n:l0.length=n:=by rw [hl0e,List.length_map,hn]
 have hr0n:r0.length=n:=by rw [hr0e,rotL_len,hl0n]
 show X (mkE Tryz.prog Tryz.f4 Q w (InR [] []) im (D2 wa wb WP.zero WP.zero) (W2 wa wb WP.zero WP.zero im) [] B4) _ _
 refine X.go T4_ok 400 _ rfl Tryz.results4 ?_
 conv=>arg 2;cbv
 refine X.loop (E:=mkE Tryz.prog Tryz.f4 Q w (InR [] []) im (D2 wa wb WP.zero WP.zero) (W2 wa wb WP.zero WP.zero im) [] B4) (fun g:TurnG l0 r0 w.heap.size av ay bv by' im=>mkE Tryz.prog Tryz.f4 Q w (InR [] []) g.Mo (D2 g.a g.b g.s g.t) (W2 g.a g.b g.s g.t g.Mo) [] B4)
  (fun g=>⟨[(0,.val (.slv po n cp)),(2,.val (.int .u8 (.v key))),(6,.val (.bool (.lit false))),(7,.val (.int .i64 (.nat kk))),(8,.val (.ext av ay 0)),(9,.val (.ext bv by' 0)),(10,.val (.int .i64 (.nat g.i)))],[]⟩) (fun g=>n-g.i) (fun g=>⟨rfl,rfl,rfl,rfl⟩) (fun N a w' hN hf hS=>?_) (fun g q hq=>?_)
 ·refine ⟨⟨0,wa,wb,WP.zero,WP.zero,im,Nat.zero_le _,zero_ok,zero_ok,hO2,hmd2,hdis,fun _ _ _ h=>h,⟨hav,hay⟩,⟨hbv,hby⟩,rfl,rfl⟩,?_⟩
  exact At.again hf hS (by repeat first | exact trivial | refine ⟨⟨_,rfl,.inl ⟨rfl,rfl⟩⟩,?_⟩ | refine ⟨⟨_,rfl,.inr ⟨_,rfl,rfl⟩⟩,?_⟩ | refine ⟨⟨_,rfl,.inr ⟨_,rfl,by simp (disch:=omega) [SV.den,SI.den,wrapU,wrapD]<;>omega⟩⟩,?_⟩) trivial
 clear hO2 hmd2 hdis hav hay hbv hby
 clear wa wb
 obtain ⟨i,wa,wb,s,t,Mo,hi,oks,okt,hO,hmd,hdis,hold,hPa,hPb,hes,het⟩:=g
 rw [hl0n] at hi
 show X (mkE Tryz.prog Tryz.f4 Q w (InR [] []) Mo (D2 wa wb s t) (W2 wa wb s t Mo) [] B4) _ _
 have hn61:n≤60:=by omega
 refine X.go T4_ok 400 _ rfl Tryz.results4 ?_
 conv=>arg 2;cbv
 refine X.cond rfl (fun hlt=>?_) (fun hge=>?_)
 ·simp only [SB.T,SI.den] at hlt
  have hlt:(i:Int)<(n:Int):=hlt
  have hlt:i<n:=by omega
  refine X.go T4_ok 400 _ rfl Tryz.results4 ?_
  conv=>arg 2;cbv
  obtain ⟨j,hj⟩:∃ j,j=(i+kk) % n:=⟨_,rfl⟩
  have hjn:j<n:=by rw [hj];exact Nat.mod_lt _ hn0
  obtain ⟨x,hx⟩:∃ x,l[i]?=some x:=⟨_,List.getElem?_eq_getElem (by omega)⟩
  obtain ⟨y,hy⟩:∃ x,l[j]?=some x:=⟨_,List.getElem?_eq_getElem (by omega)⟩
  have hx0:l0[i]?=some x.z:=by rw [hl0e,List.getElem?_map,hx];rfl
  have hy0:r0[i]?=some y.z:=by
   rw [hr0e,rotL_get _ (by omega) (by omega),hl0n,←hj,hl0e,List.getElem?_map,hy];rfl
  obtain ⟨b1,y1,vs1,hpo1,hrep1,hcell1⟩:=hs.row (i:=i) (d:=x.toD) (by simp [hx])
  obtain ⟨t1,rfl,hof1⟩:=TelP.cells hrep1
  obtain ⟨b2,y2,vs2,hpo2,hrep2,hcell2⟩:=hs.row (i:=j) (d:=y.toD) (by simp [hy])
  obtain ⟨t2,rfl,hof2⟩:=TelP.cells hrep2
  obtain ⟨z1,hz1⟩:∃ z,z=y1+i*21:=⟨_,rfl⟩
  obtain ⟨z2,hz2⟩:∃ z,z=y2+j*21:=⟨_,rfl⟩
  rw [←hz1] at hcell1
  rw [←hz2] at hcell2
  have hofM1:t1.Of Mo x:=hof1.mono fun k o v h=>hold _ _ _ (him _ _ _ h)
  have hofM2:t2.Of Mo y:=hof2.mono fun k o v h=>hold _ _ _ (him _ _ _ h)
  have hlow1:∀ j,j<21→b1<w.heap.size:=fun j hj=>by
   obtain ⟨v,hv⟩:∃ v,t1.vals[0]?=some v:=⟨_,rfl⟩
   have:=World.block_lt_of_cell? _ _ (hcell1 0 v hv)
   simpa using this
  have hlow2:∀ j,j<21→b2<w.heap.size:=fun j hj=>by
   obtain ⟨v,hv⟩:∃ v,t2.vals[0]?=some v:=⟨_,rfl⟩
   have:=World.block_lt_of_cell? _ _ (hcell2 0 v hv)
   simpa using this
  obtain ⟨nd,cc,op,on,oc,np,nn,nc,ky,hss,s1,s2,s3,a1,a2,a3,⟨gk,gi,gs,gl,q1,q2,q3,q4,m1,m2,m3,m4,f1,f2,f3,f4⟩,ta⟩:=t1
  obtain ⟨nd',cc',op',on',oc',np',nn',nc',ky',hss',s1',s2',s3',a1',a2',a3',⟨gk',gi',gs',gl',q1',q2',q3',q4',m1',m2',m3',m4',f1',f2',f3',f4'⟩,ta'⟩:=t2
  have hsee:∀ (b z:Nat) (t:TelC),(∀ (j:Nat) (v:Value),t.vals[j]?=some v→Eng.wm w b (z+j)=some v)→∀ (j:Nat) (c:SV),t.svs[j]?=some c→∃ v,c.den []=some v∧Mo b (z+j)=some v:=fun b z t hcell j c hj=>by
   have hd:SV.denL [] t.svs=some t.vals:=rfl
   obtain ⟨_,k2⟩:=SV.denL_get (N:=[]) t.svs hd
   obtain ⟨v,k3,k4⟩:=k2 j c hj
   exact ⟨v,k3,hold _ _ _ (him _ _ _ (hcell j v k4))⟩
  refine X.see b1 z1 (TelC.svs ⟨nd,cc,op,on,oc,np,nn,nc,ky,hss,s1,s2,s3,a1,a2,a3,⟨gk,gi,gs,gl,q1,q2,q3,q4,m1,m2,m3,m4,f1,f2,f3,f4⟩,ta⟩) (hsee _ _ _ hcell1) (by simp [TelC.svs]) (fun N1 hN1 hNl1=>?_)
  have hg1:(N1++[(⟨b1,z1,0⟩:Num)])[0]?=some ⟨b1,z1,0⟩:=num_last hNl1
  refine X.see b2 z2 (TelC.svs ⟨nd',cc',op',on',oc',np',nn',nc',ky',hss',s1',s2',s3',a1',a2',a3',⟨gk',gi',gs',gl',q1',q2',q3',q4',m1',m2',m3',m4',f1',f2',f3',f4'⟩,ta'⟩) (hsee _ _ _ hcell2) (by simp [TelC.svs]) (fun N2 hN2 hNl2=>?_)
  have hg2:(N2++[(⟨b2,z2,0⟩:Num)])[1]?=some ⟨b2,z2,0⟩:=num_last hNl2
  have hg1':(N2++[(⟨b2,z2,0⟩:Num)])[0]?=some ⟨b1,z1,0⟩:=num_old (hN2 0 _ hg1)
  obtain ⟨N3,hN3⟩:∃ N,N=N2++[(⟨b2,z2,0⟩:Num)]:=⟨_,rfl⟩
  show X (mkE Tryz.prog Tryz.f4 Q w (InR [] []) Mo (D2 wa wb s t) (W2 wa wb s t Mo) (N2++[(⟨b2,z2,0⟩:Num)]) B4) _ _
  rw [←hN3] at hg1' hg2 ⊢
  refine X.goTX ([(36,.own 0 0),(44,.int .i64 (.nat j)),(45,.own 1 0)]) ([]) T4_ok (.q 0 [1,4,5,6,7,8,9,10,11,12,13,14] (.q 1 [0,4,5,6,7,8,9,10,11,12,13,14] (.q 2 [0,1,4,5,6,7,8,9,10,11,12,13,14] (.q 4 [0,1,2,3,5,6,7,8,9,10,13,14,15] (.q 5 [0,1,2,3,4,6,8,9,13,14,15] (.q 6 [0,1,2,3,4,5,8,9,13,14,15] (.q 7 [0,1,2,3,4,5,6,8,9,13,14,15] (.q 8 [0,1,2,3,4,5,6,7,13,14,15] (.q 9 [0,1,2,3,4,5,6,7,8,13,14,15] (.q 10 [0,1,2,3,4,5,6,7,8,9,13,14,15] (.q 11 [0,1,2,3,4,5,6,7,8,9,10,13,14,15] (.q 3 [0,1,2,4,5,6,7,8,9,10,11,12,13,14] (.q 12 [0,1,2,3,4,5,6,7,8,9,10,11,13,14,15] (.two 13 14 (.one 14 (.one 15 (.one 16 (.nil)))) (.one 13 (.one 15 (.one 16 (.nil)))))))))))))))))) _ rfl (by kernel_rfl) (by kernel_rfl) (fun pr pe fin hpr hpe hfin=>?_)
  conv=>cbv
  have hz1':TelC.Of Mo ⟨nd,cc,op,on,oc,np,nn,nc,ky,hss,s1,s2,s3,a1,a2,a3,⟨gk,gi,gs,gl,q1,q2,q3,q4,m1,m2,m3,m4,f1,f2,f3,f4⟩,0⟩ x.z:=⟨⟨hofM1.e.1,hofM1.e.2.1,hofM1.e.2.2.1,hofM1.e.2.2.2.1,hofM1.e.2.2.2.2.1,hofM1.e.2.2.2.2.2.1,hofM1.e.2.2.2.2.2.2.1,rfl⟩,hofM1.o,hofM1.n,hofM1.g⟩
  have hz2':TelC.Of Mo ⟨nd',cc',op',on',oc',np',nn',nc',ky',hss',s1',s2',s3',a1',a2',a3',⟨gk',gi',gs',gl',q1',q2',q3',q4',m1',m2',m3',m4',f1',f2',f3',f4'⟩,0⟩ y.z:=⟨⟨hofM2.e.1,hofM2.e.2.1,hofM2.e.2.2.1,hofM2.e.2.2.2.1,hofM2.e.2.2.2.2.1,hofM2.e.2.2.2.2.2.1,hofM2.e.2.2.2.2.2.2.1,rfl⟩,hofM2.o,hofM2.n,hofM2.g⟩
  refine ⟨hpr _ (ValOk.row rfl rfl (fun _=>rfl) Tryz.underlying22 Tryz.sizeOf45 hlt hpo1 hg1' rfl hz1),hpr _ (vk_rem rfl rfl fun _=>⟨?_,?_⟩),hpr _ (ValOk.row rfl rfl (fun _=>rfl) Tryz.underlying22 Tryz.sizeOf45 hjn hpo2 hg2 rfl hz2),⟨rfl,rfl,rfl,rfl,hfin _ (X.noNames (X.less [12,11,0,2,6,7,8,9,10] ?hk))⟩,rfl,rfl,rfl,rfl,hfin _ (X.noNames (X.less [12,11,0,2,6,7,8,9,10] (X.flip (f':=[(11,.val (.own 2 0)),(12,.val (.own 3 0)),(0,.val (.slv po n cp)),(2,.val (.int .u8 (.v key))),(6,.val (.bool (.lit false))),(7,.val (.int .i64 (.nat kk))),(8,.val (.ext av ay 0)),(9,.val (.ext bv by' 0)),(10,.val (.int .i64 (.nat i)))]) (a':=⟨true,TelC.svs ⟨nd',cc',op',on',oc',np',nn',nc',ky',hss',s1',s2',s3',a1',a2',a3',⟨gk',gi',gs',gl',q1',q2',q3',q4',m1',m2',m3',m4',f1',f2',f3',f4'⟩,ta'⟩,none⟩) (b':=⟨true,TelC.svs ⟨nd,cc,op,on,oc,np,nn,nc,ky,hss,s1,s2,s3,a1,a2,a3,⟨gk,gi,gs,gl,q1,q2,q3,q4,m1,m2,m3,m4,f1,f2,f3,f4⟩,ta⟩,none⟩) rfl (fun n0 n1 n2 n3=>?hsh) ⟨rfl,rfl,rfl,rfl⟩ ⟨rfl,rfl⟩ (fun n0 n1 n2 n3=>⟨?hc0,?hc1,?hc2,?hc3⟩) (X.frame [(12,.val (.own 3 0)),(11,.val (.own 2 0)),(0,.val (.slv po n cp)),(2,.val (.int .u8 (.v key))),(6,.val (.bool (.lit false))),(7,.val (.int .i64 (.nat kk))),(8,.val (.ext av ay 0)),(9,.val (.ext bv by' 0)),(10,.val (.int .i64 (.nat i)))] ?hf1 ?hf2 ?hk))))⟩
  case hsh=>exact ⟨rfl,fun _ h=>h,rfl,fun _ h=>h,rfl,fun _ h=>h,rfl,fun _ h=>h,rfl,fun _ h=>h,rfl,fun _ h=>h,rfl,fun _ h=>h,rfl,fun _ h=>h,rfl,fun _ h=>h,trivial⟩
  case hc0=>exact ⟨fun _ h=>h,fun _ h=>h,fun _ h=>h,fun _ h=>h,fun _ h=>h,fun _ h=>h,fun _ h=>h,fun _ h=>h,fun _ h=>h,fun _ h=>h,fun _ h=>h,fun _ h=>h,fun _ h=>h,fun _ h=>h,fun _ h=>h,fun _ h=>h,fun _ h=>h,fun _ h=>h,fun _ h=>h,fun _ h=>h,fun _ h=>h,trivial⟩
  case hc1=>exact ⟨fun _ h=>h,fun _ h=>h,fun _ h=>h,fun _ h=>h,fun _ h=>h,fun _ h=>h,fun _ h=>h,fun _ h=>h,fun _ h=>h,fun _ h=>h,fun _ h=>h,fun _ h=>h,fun _ h=>h,fun _ h=>h,fun _ h=>h,fun _ h=>h,fun _ h=>h,fun _ h=>h,fun _ h=>h,fun _ h=>h,fun _ h=>h,trivial⟩
  case hc2=>exact ⟨fun _ h=>h,fun _ h=>h,fun _ h=>h,fun _ h=>h,fun _ h=>h,fun _ h=>h,fun _ h=>h,fun _ h=>h,fun _ h=>h,fun _ h=>h,fun _ h=>h,fun _ h=>h,fun _ h=>h,fun _ h=>h,fun _ h=>h,fun _ h=>h,fun _ h=>h,fun _ h=>h,fun _ h=>h,fun _ h=>h,fun _ h=>h,trivial⟩
  case hc3=>exact ⟨fun _ h=>h,fun _ h=>h,fun _ h=>h,fun _ h=>h,fun _ h=>h,fun _ h=>h,fun _ h=>h,fun _ h=>h,fun _ h=>h,fun _ h=>h,fun _ h=>h,fun _ h=>h,fun _ h=>h,fun _ h=>h,fun _ h=>h,fun _ h=>h,fun _ h=>h,fun _ h=>h,fun _ h=>h,fun _ h=>h,fun _ h=>h,trivial⟩
  case hf1=>intro N;exact (by repeat first | exact trivial | refine ⟨⟨_,rfl,.inl ⟨rfl,rfl⟩⟩,?_⟩ | refine ⟨⟨_,rfl,.inr ⟨_,rfl,rfl⟩⟩,?_⟩ | refine ⟨⟨_,rfl,.inr ⟨_,rfl,by simp (disch:=omega) [SV.den,SI.den,wrapU,wrapD]<;>omega⟩⟩,?_⟩)
  case hf2=>intro N;exact (by repeat first | exact trivial | refine ⟨fun h=>h,SubC.refl rfl,rfl,?_⟩)
  ·simp only [SI.den];omega
  ·have hw:IntKind.i64.wrap ((i:Int)+(kk:Int))=(i:Int)+kk:=by simp [IntKind.wrap,IntKind.bits,IntKind.signed];omega
   simp only [SI.den,hw]
   rw [hj,Int.tmod_eq_emod_of_nonneg (by omega),Int.natCast_emod,Int.natCast_add]
  clear hpr hpe hfin hsee hcell1 hcell2 hg1 hg2 hg1' hN1 hNl1 hN2 hNl2 hN3
  refine X.drop 0 (by show 0<4;omega) ?_
  refine X.drop 1 (by show 1<4;omega) ?_
  show X (mkE Tryz.prog Tryz.f4 Q w (InR [] []) Mo (D2 wa wb s t) (W2 wa wb s t Mo) [] B4) _ _
  refine X.go T4_ok 400 _ rfl Tryz.results4 ?_
  conv=>arg 2;cbv
  refine X.call rfl rfl rfl rfl Tryz.call9 (fun N w1 args hN hS ha=>?_)
  obtain rfl:=args_eq (vs:=(sawA (wa.P 0).b (wa.P 0).o ⟨nd,cc,op,on,oc,np,nn,nc,ky,hss,s1,s2,s3,a1,a2,a3,⟨gk,gi,gs,gl,q1,q2,q3,q4,m1,m2,m3,m4,f1,f2,f3,f4⟩,0⟩).toList) (by rw [←hPa.1,←hPa.2];rfl) ha
  have hsaw:=saw_ok wa s i Mo w1 _ x.z (hS.res.l.at hS.imm) oks (by omega) hz1' (hok x (List.mem_of_getElem? hx)).z
  obtain ⟨s',hs'⟩:∃ s',s'=s.saw x.z:=⟨_,rfl⟩
  have oks':s'.Ok (i+1):=by rw [hs'];exact oks.saw (hok x (List.mem_of_getElem? hx)).z
  have hes':s'=(l0.take (i+1)).foldl WP.saw WP.zero:=by rw [foldT WP.saw WP.zero hx0,←hes,hs']
  rw [←hs'] at hsaw
  refine Calls.mono hsaw fun e w2 hret=>?_
  obtain ⟨he,wa',Mo',hst⟩:=hS.res.step hS.imm hdis hret
  refine ⟨_,he,mkE Tryz.prog Tryz.f4 Q w (InR [] []) Mo' (D2 wa' wb s' t) (W2 wa' wb s' t Mo') [] B4,N,.tup [],_,_,rfl,rfl,rfl,rfl,Nums.le.refl N,hN,hS.turnMem (D2 wa' wb s' t) (W2 wa' wb s' t Mo') Mo' hst.chg (fun k o hk=>.inl (hO k o hk)) hmd (fun r g p hg hp=>by
   match r,hg with
   | 0,hg=>cases hg;exact .inr fun j hj=>absurd hj (Nat.not_lt_zero _)
   | 1,hg=>cases hg;exact .inr fun j hj=>absurd hj (Nat.not_lt_zero _)
   | 2,hg=>cases hg;exact .inl rfl
   | 3,hg=>cases hg;exact .inl rfl) hst.d W2.loc hst.w2 hst.mo hst.new,rfl,rfl,?_⟩
  have hO1:∀ k o,D2 wa' wb s' t k o→w.heap.size≤k:=fun k o h=>by
   rcases (hst.d k o h).1 with h1 | h1
   ·exact hO k o h1
   ·exact Nat.le_trans hS.chg.size h1
  have hmd1:=hst.md
  have hdis1:=hst.dis
  have hPa1:av=(wa'.P 0).b∧ay=(wa'.P 0).o:=by rw [hst.pa];exact hPa
  have hold1:∀ k o v,im k o=some v→Mo' k o=some v:=fun k o v h=>hst.old _ _ _ (hold _ _ _ h)
  have hz3:TelC.Of Mo' ⟨nd',cc',op',on',oc',np',nn',nc',ky',hss',s1',s2',s3',a1',a2',a3',⟨gk',gi',gs',gl',q1',q2',q3',q4',m1',m2',m3',m4',f1',f2',f3',f4'⟩,0⟩ y.z:=hz2'.mono hst.old
  clear ha he hS hN hsaw hret hst hz1' hz2' hofM1 hofM2
  show X (mkE Tryz.prog Tryz.f4 Q w (InR [] []) Mo' (D2 wa' wb s' t) (W2 wa' wb s' t Mo') [] B4) _ _
  refine X.go T4_ok 400 _ rfl Tryz.results4 ?_
  conv=>arg 2;cbv
  refine X.call rfl rfl rfl rfl Tryz.call9 (fun N w1 args hN hS ha=>?_)
  obtain rfl:=args_eq (vs:=(sawA (wb.P 0).b (wb.P 0).o ⟨nd',cc',op',on',oc',np',nn',nc',ky',hss',s1',s2',s3',a1',a2',a3',⟨gk',gi',gs',gl',q1',q2',q3',q4',m1',m2',m3',m4',f1',f2',f3',f4'⟩,0⟩).toList) (by rw [←hPb.1,←hPb.2];rfl) ha
  have hsaw:=saw_ok wb t i Mo' w1 _ y.z (hS.res.r.at hS.imm) okt (by omega) hz3 (hok y (List.mem_of_getElem? hy)).z
  obtain ⟨t',ht'⟩:∃ t',t'=t.saw y.z:=⟨_,rfl⟩
  have okt':t'.Ok (i+1):=by rw [ht'];exact okt.saw (hok y (List.mem_of_getElem? hy)).z
  have het':t'=(r0.take (i+1)).foldl WP.saw WP.zero:=by rw [foldT WP.saw WP.zero hy0,←het,ht']
  rw [←ht'] at hsaw
  refine Calls.mono hsaw fun e w2 hret=>?_
  obtain ⟨he,wb',Mo2,hst0⟩:=hS.res.swap.step hS.imm (fun k o h1 h2=>hdis1 k o h2 h1) hret
  have hst:=hst0.swap
  refine ⟨_,he,mkE Tryz.prog Tryz.f4 Q w (InR [] []) Mo2 (D2 wa' wb' s' t') (W2 wa' wb' s' t' Mo2) [] B4,N,.tup [],_,_,rfl,rfl,rfl,rfl,Nums.le.refl N,hN,hS.turnMem (D2 wa' wb' s' t') (W2 wa' wb' s' t' Mo2) Mo2 hst.chg (fun k o hk=>.inl (hO1 k o hk)) hmd1 (fun r g p hg hp=>by
   match r,hg with
   | 0,hg=>cases hg;exact .inr fun j hj=>absurd hj (Nat.not_lt_zero _)
   | 1,hg=>cases hg;exact .inr fun j hj=>absurd hj (Nat.not_lt_zero _)
   | 2,hg=>cases hg;exact .inl rfl
   | 3,hg=>cases hg;exact .inl rfl) hst.d W2.loc hst.w2 hst.mo hst.new,rfl,rfl,?_⟩
  have hO2:∀ k o,D2 wa' wb' s' t' k o→w.heap.size≤k:=fun k o h=>by
   rcases (hst.d k o h).1 with h1 | h1
   ·exact hO1 k o h1
   ·exact Nat.le_trans hS.chg.size h1
  have hmd2:=hst.md
  have hdis2:=hst.dis
  have hPb2:bv=(wb'.P 0).b∧by'=(wb'.P 0).o:=by rw [hst.pb];exact hPb
  have hold2:∀ k o v,im k o=some v→Mo2 k o=some v:=fun k o v h=>hst.old _ _ _ (hold1 _ _ _ h)
  clear ha he hS hN hsaw hret hst hst0 hdis1 hmd1 hO1 hold1 hz3
  show X (mkE Tryz.prog Tryz.f4 Q w (InR [] []) Mo2 (D2 wa' wb' s' t') (W2 wa' wb' s' t' Mo2) [] B4) _ _
  refine X.go T4_ok 400 _ rfl Tryz.results4 ?_
  conv=>arg 2;cbv
  refine X.back (fun N a w' hN hf hS=>hq ⟨i+1,wa',wb',s',t',Mo2,by omega,oks',okt',hO2,hmd2,hdis2,hold2,hPa1,hPb2,hes',het'⟩ a w' (by simp only;omega) ?_)
  exact At.again hf hS (by repeat first | exact trivial | refine ⟨⟨_,rfl,.inl ⟨rfl,rfl⟩⟩,?_⟩ | refine ⟨⟨_,rfl,.inr ⟨_,rfl,rfl⟩⟩,?_⟩ | refine ⟨⟨_,rfl,.inr ⟨_,rfl,by simp (disch:=omega) [SV.den,SI.den,wrapU,wrapD]<;>omega⟩⟩,?_⟩) trivial
 simp only [SB.F,SI.den] at hge
 have hge:(n:Int)≤(i:Int):=hge
 have hin:i=n:=by omega
 subst hin
 rw [List.take_of_length_le (by omega)] at hes het
 have hinv1:WInv l0 s:=by rw [hes];exact wInv_all l0
 have hinv2:WInv r0 t:=by rw [het];exact wInv_all r0
 have hmem:∀ x,x∈l0↔x∈r0:=fun x=>by rw [hr0e];exact rotL_mem l0 kk x
 have hz0:∀ x∈l0,x.at'=0:=fun x hx=>by
  rw [hl0e] at hx
  obtain ⟨u,_,rfl⟩:=List.mem_map.1 hx
  rfl
 have htorn:s.torn=t.torn:=by
  rw [Bool.eq_iff_iff,hinv1.torn,hinv2.torn]
  exact tornT_perm hmem
 have hperm:s.torn=false→s.l.Perm t.l:=fun h=>wInv_perm hmem hz0 hinv1 hinv2 fun h'=>by
  rw [hinv1.torn.2 h'] at h;cases h
 have hnd:=hinv1.nd
 clear hinv1 hinv2 hmem hz0 hes het hq
 have hmd':=hmd
 cases htv:s.torn with
 | true =>
  have htw:t.torn=true:=by rw [←htorn,htv]
  refine X.go T4_ok 400 _ rfl Tryz.results4 ?_
  conv=>arg 2;cbv
  refine X.call rfl rfl rfl rfl Tryz.call13 (fun N w1 args hN hS ha=>?_)
  obtain rfl:=args_eq (vs:=[ptrN (wa.P 0)]) (by rw [ptrN,←hPa.1,←hPa.2];rfl) ha
  refine (torn_ok wa s Mo w1 (hS.res.l.at hS.imm)).mono fun e w2 ⟨he,hc⟩=>⟨_,he,Goes.same hN hS hc (r:=.bool (.lit true)) (by rw [htv];rfl) rfl ?_⟩
  clear ha he hc hS hN
  refine X.go T4_ok 400 _ rfl Tryz.results4 ?_
  conv=>arg 2;cbv
  refine X.call rfl rfl rfl rfl Tryz.call13 (fun N w1 args hN hS ha=>?_)
  obtain rfl:=args_eq (vs:=[ptrN (wa.P 0)]) (by rw [ptrN,←hPa.1,←hPa.2];rfl) ha
  refine (torn_ok wa s Mo w1 (hS.res.l.at hS.imm)).mono fun e w2 ⟨he,hc⟩=>⟨_,he,Goes.same hN hS hc (r:=.bool (.lit true)) (by rw [htv];rfl) rfl ?_⟩
  clear ha he hc hS hN
  refine X.go T4_ok 400 _ rfl Tryz.results4 ?_
  conv=>arg 2;cbv
  refine X.call rfl rfl rfl rfl Tryz.call13 (fun N w1 args hN hS ha=>?_)
  obtain rfl:=args_eq (vs:=[ptrN (wb.P 0)]) (by rw [ptrN,←hPb.1,←hPb.2];rfl) ha
  refine (torn_ok wb t Mo w1 (hS.res.r.at hS.imm)).mono fun e w2 ⟨he,hc⟩=>⟨_,he,Goes.same hN hS hc (r:=.bool (.lit true)) (by rw [htw];rfl) rfl ?_⟩
  clear ha he hc hS hN
  refine X.go T4_ok 400 _ rfl Tryz.results4 ?_
  conv=>arg 2;cbv
  refine X.bare rfl rfl ?_
  refine X.call rfl rfl rfl rfl Tryz.call7 (fun N w1 args hN hS ha=>?_)
  obtain rfl:([]:List Value)=args:=Option.some.inj ha
  refine (awake24_ok w1).mono fun e w2 ⟨he,hc⟩=>⟨_,he,Goes.same (r:=.bool (.lit true)) hN hS hc rfl rfl ?_⟩
  clear ha he hc hS hN
  refine X.go T4_ok 400 _ rfl Tryz.results4 ?_
  conv=>arg 2;cbv
  refine X.done T4_ok rfl (fun N w' v hN hS hv=>?_)
  rw [hQ]
  exact ⟨fin_bool hv rfl,hS.chg.none⟩
 | false =>
  have htw:t.torn=false:=by rw [←htorn,htv]
  have hperm:=hperm htv
  refine X.go T4_ok 400 _ rfl Tryz.results4 ?_
  conv=>arg 2;cbv
  refine X.call rfl rfl rfl rfl Tryz.call13 (fun N w1 args hN hS ha=>?_)
  obtain rfl:=args_eq (vs:=[ptrN (wa.P 0)]) (by rw [ptrN,←hPa.1,←hPa.2];rfl) ha
  refine (torn_ok wa s Mo w1 (hS.res.l.at hS.imm)).mono fun e w2 ⟨he,hc⟩=>⟨_,he,Goes.same hN hS hc (r:=.bool (.lit false)) (by rw [htv];rfl) rfl ?_⟩
  clear ha he hc hS hN
  refine X.go T4_ok 400 _ rfl Tryz.results4 ?_
  conv=>arg 2;cbv
  refine X.bare rfl rfl ?_
  refine X.call rfl rfl rfl rfl Tryz.call13 (fun N w1 args hN hS ha=>?_)
  obtain rfl:=args_eq (vs:=[ptrN (wb.P 0)]) (by rw [ptrN,←hPb.1,←hPb.2];rfl) ha
  refine (torn_ok wb t Mo w1 (hS.res.r.at hS.imm)).mono fun e w2 ⟨he,hc⟩=>⟨_,he,Goes.same hN hS hc (r:=.bool (.lit false)) (by rw [htw];rfl) rfl ?_⟩
  clear ha he hc hS hN
  refine X.go T4_ok 400 _ rfl Tryz.results4 ?_
  conv=>arg 2;cbv
  refine X.call rfl rfl rfl rfl Tryz.call12 (fun N w1 args hN hS ha=>?_)
  obtain rfl:=args_eq (vs:=[ptrN (wa.P 0),.int .u8 key]) (by rw [ptrN,←hPa.1,←hPa.2];rfl) ha
  refine (chain_ok wa s i Mo w1 (hS.res.l.at hS.imm) oks (by omega) key).mono fun e w2 ⟨c1,hc1,⟨p1,k1,he,hm1⟩,hch⟩=>?_
  obtain ⟨n1,hn1⟩:∃ z,z=c1.length:=⟨_,rfl⟩
  rw [←hn1] at he
  refine ⟨_,he,Goes.newMem hN hS hch (r:=.slv p1 n1 k1) rfl rfl (fun hold2 hnew=>?_)⟩
  obtain ⟨M1,hM1⟩:∃ M,M=imNew Mo w1 w2:=⟨_,rfl⟩
  show X (mkE Tryz.prog Tryz.f4 Q w (InR [] []) (imNew Mo w1 w2) (D2 wa wb s t) (W2 wa wb s t Mo) [] B4) _ _
  rw [←hM1] at hold2 hnew ⊢
  have hs1:SlR M1 p1 k1 13 (c1.map VerP.toD):=hm1 M1 hold2 hnew
  clear ha he hch hS hN hM1 hnew hm1
  refine X.go T4_ok 400 _ rfl Tryz.results4 ?_
  conv=>arg 2;cbv
  refine X.call rfl rfl rfl rfl Tryz.call12 (fun N w1 args hN hS ha=>?_)
  obtain rfl:=args_eq (vs:=[ptrN (wb.P 0),.int .u8 key]) (by rw [ptrN,←hPb.1,←hPb.2];rfl) ha
  refine (chain_ok wb t i Mo w1 (hS.res.r.at fun k o v hk=>hS.imm _ _ _ (hold2 _ _ _ hk)) okt (by omega) key).mono fun e w2 ⟨c2,hc2,⟨p2,k2,he,hm2⟩,hch⟩=>?_
  obtain rfl:=chain_eq hc1 hc2 hperm hnd
  rw [←hn1] at he
  refine ⟨_,he,Goes.newMem hN hS hch (r:=.slv p2 n1 k2) rfl rfl (fun hold3 hnew=>?_)⟩
  obtain ⟨M2,hM2⟩:∃ M,M=imNew M1 w1 w2:=⟨_,rfl⟩
  show X (mkE Tryz.prog Tryz.f4 Q w (InR [] []) (imNew M1 w1 w2) (D2 wa wb s t) (W2 wa wb s t Mo) [] B4) _ _
  rw [←hM2] at hold3 hnew ⊢
  have hold4:∀ k o v,Mo k o=some v→M2 k o=some v:=fun k o v hk=>hold3 _ _ _ (hold2 _ _ _ hk)
  have hs2:SlR M2 p2 k2 13 (c1.map VerP.toD):=hm2 M2 hold4 hnew
  have hs1:=hs1.mono hold3
  clear ha he hch hS hN hM2 hnew hm2 hold2 hold3
  refine X.go T4_ok 400 _ rfl Tryz.results4 ?_
  conv=>arg 2;cbv
  refine X.call rfl rfl rfl rfl Tryz.call11 (fun N w1 args hN hS ha=>?_)
  obtain rfl:=args_eq (vs:=[.slice p1 n1 k1,.slice p2 n1 k2]) rfl ha
  have hsm:=same24_ok c1 c1 p1 p2 k1 k2 w1 (hs1.mono hS.imm) (hs2.mono hS.imm)
  rw [←hn1,B_pos rfl] at hsm
  refine Calls.mono hsm fun e w2 ⟨he,hc⟩=>⟨_,he,Goes.same hN hS hc (r:=.bool (.lit true)) rfl rfl ?_⟩
  clear ha he hc hS hN hsm
  obtain ⟨nv,hnv⟩:∃ z,z=s.l.length:=⟨_,rfl⟩
  have hnw:t.l.length=nv:=by rw [hnv,hperm.length_eq]
  refine X.go T4_ok 400 _ rfl Tryz.results4 ?_
  conv=>arg 2;cbv
  refine X.bare rfl rfl ?_
  refine X.call rfl rfl rfl rfl Tryz.call10 (fun N w1 args hN hS ha=>?_)
  obtain rfl:=args_eq (vs:=[ptrN (wa.P 0)]) (by rw [ptrN,←hPa.1,←hPa.2];rfl) ha
  refine (versions_ok wa s i Mo w1 (hS.res.l.at fun k o v hk=>hS.imm _ _ _ (hold4 _ _ _ hk)) oks (by omega)).mono fun e w2 ⟨⟨pv,cv,he,_⟩,hch⟩=>?_
  rw [←hnv] at he
  refine ⟨_,he,Goes.same hN hS hch (r:=.slv pv nv cv) rfl rfl ?_⟩
  clear ha he hch hS hN
  refine X.go T4_ok 400 _ rfl Tryz.results4 ?_
  conv=>arg 2;cbv
  refine X.bare rfl rfl ?_
  refine X.call rfl rfl rfl rfl Tryz.call10 (fun N w1 args hN hS ha=>?_)
  obtain rfl:=args_eq (vs:=[ptrN (wb.P 0)]) (by rw [ptrN,←hPb.1,←hPb.2];rfl) ha
  refine (versions_ok wb t i Mo w1 (hS.res.r.at fun k o v hk=>hS.imm _ _ _ (hold4 _ _ _ hk)) okt (by omega)).mono fun e w2 ⟨⟨pw,cw,he,_⟩,hch⟩=>?_
  rw [hnw] at he
  refine ⟨_,he,Goes.same hN hS hch (r:=.slv pw nv cw) rfl rfl ?_⟩
  clear ha he hch hS hN
  refine X.goX ([(95,.bool (.lit true))]) ([]) T4_ok 400 _ rfl Tryz.results4 (fun pr pe fin hpr hpe hfin=>?_)
  conv=>cbv
  refine ⟨hpr _ (vk_eqI rfl rfl rfl),hfin _ _ ?_⟩
  clear hpr hpe hfin
  refine X.bare rfl rfl ?_
  refine X.call rfl rfl rfl rfl Tryz.call7 (fun N w1 args hN hS ha=>?_)
  obtain rfl:([]:List Value)=args:=Option.some.inj ha
  refine (awake24_ok w1).mono fun e w2 ⟨he,hc⟩=>⟨_,he,Goes.same (r:=.bool (.lit true)) hN hS hc rfl rfl ?_⟩
  clear ha he hc hS hN
  refine X.go T4_ok 400 _ rfl Tryz.results4 ?_
  conv=>arg 2;cbv
  refine X.done T4_ok rfl (fun N w' v hN hS hv=>?_)
  rw [hQ]
  exact ⟨fin_bool hv rfl,hS.chg.none⟩
end Go.Proofs.YthpbefahaghbjaaGreat
namespace Go.Proofs.YthpbefahaghbjaaGreat
open Go Go.Eng Go.ChangeShapes Go.WideShapes Go.ChangeAt Go.RowKit
def telK:List CK:=[.int .u8,.int .u64,.slice 5,.slice 5,.int .u8,.bool,.int .u64,.int .u8,.int .u32,.int .u64,.int .u8,.int .u32,.int .u8,.int .u64,.int .i64,.slice 2,.slice 89,.slice 96,.int .u64,.slice 99,.int .i64]
theorem k_tel:kindsOf Tryz.prog 8 45=some telK:=by kernel_rfl
structure TelP.Wf (x:TelP):Prop where
 c0:0≤x.c.c
 co:U8 x.c.old
 cn:U8 x.c.new
 nd:0≤x.node
 kw:(Lit.int .u8 x.key).wf=true
 a1:(Lit.int .u64 x.s.acc.count).wf=true
 a2:(Lit.int .u8 x.s.acc.node).wf=true
 a3:(Lit.int .u32 x.s.acc.life).wf=true
theorem fit_tel {m:Nat} {r:List Dt} (h:FitL Tryz.prog (m+2) telK r):∃ x:TelP,r=x.toD∧x.Wf:=by
 unfold telK at h
 obtain ⟨_,_,rfl,h1,h⟩:=FitL.cons h
 obtain ⟨_,_,rfl,h2,h⟩:=FitL.cons h
 obtain ⟨_,_,rfl,h3,h⟩:=FitL.cons h
 obtain ⟨_,_,rfl,h4,h⟩:=FitL.cons h
 obtain ⟨_,_,rfl,h5,h⟩:=FitL.cons h
 obtain ⟨_,_,rfl,h6,h⟩:=FitL.cons h
 obtain ⟨_,_,rfl,h7,h⟩:=FitL.cons h
 obtain ⟨_,_,rfl,h8,h⟩:=FitL.cons h
 obtain ⟨_,_,rfl,h9,h⟩:=FitL.cons h
 obtain ⟨_,_,rfl,h10,h⟩:=FitL.cons h
 obtain ⟨_,_,rfl,h11,h⟩:=FitL.cons h
 obtain ⟨_,_,rfl,h12,h⟩:=FitL.cons h
 obtain ⟨_,_,rfl,h13,h⟩:=FitL.cons h
 obtain ⟨_,_,rfl,h14,h⟩:=FitL.cons h
 obtain ⟨_,_,rfl,h15,h⟩:=FitL.cons h
 obtain ⟨_,_,rfl,h16,h⟩:=FitL.cons h
 obtain ⟨_,_,rfl,h17,h⟩:=FitL.cons h
 obtain ⟨_,_,rfl,h18,h⟩:=FitL.cons h
 obtain ⟨_,_,rfl,h19,h⟩:=FitL.cons h
 obtain ⟨_,_,rfl,h20,h⟩:=FitL.cons h
 obtain ⟨_,_,rfl,h21,h⟩:=FitL.cons h
 cases FitL.nil h
 obtain ⟨z1,rfl,w1⟩:=h1.int'
 obtain ⟨z2,rfl,w2⟩:=h2.int'
 obtain ⟨l3,rfl,u3⟩:=fit_u8 h3
 obtain ⟨l4,rfl,u4⟩:=fit_u8 h4
 obtain ⟨z5,rfl,w5⟩:=h5.int'
 obtain ⟨z6,rfl⟩:=h6.bool'
 obtain ⟨z7,rfl,w7⟩:=h7.int'
 obtain ⟨z8,rfl,w8⟩:=h8.int'
 obtain ⟨z9,rfl,w9⟩:=h9.int'
 obtain ⟨z10,rfl,w10⟩:=h10.int'
 obtain ⟨z11,rfl,w11⟩:=h11.int'
 obtain ⟨z12,rfl,w12⟩:=h12.int'
 obtain ⟨z13,rfl,w13⟩:=h13.int'
 obtain ⟨z14,rfl,w14⟩:=h14.int'
 obtain ⟨z15,rfl,w15⟩:=h15.int'
 obtain ⟨l1,rfl⟩:=fit_i64 h16
 obtain ⟨l2,rfl⟩:=fit_done h17
 obtain ⟨l5,rfl⟩:=fit_cell h18
 obtain ⟨z19,rfl,w19⟩:=h19.int'
 obtain ⟨l6,rfl⟩:=fit_mark h20
 obtain ⟨z21,rfl,w21⟩:=h21.int'
 have c0:0≤z2:=by
  simp [Lit.wf,IntKind.min,IntKind.max,IntKind.bits,IntKind.signed] at w2
  omega
 exact ⟨⟨z1,⟨z2,l3,l4⟩,z5,⟨z6,⟨z7,z8,z9⟩,⟨z10,z11,z12⟩,⟨z13,z14,z15,l1,l2,l5,z19,l6⟩⟩,z21⟩,rfl,⟨c0,u3,u4,(u8_wf w1).1,w5,w10,w11,w12⟩⟩
theorem arg_tels {W:World} {v:Value} (h:ArgOk Tryz.prog W 22 v):∃ (l:List TelP) (p:Option Addr) (c:Nat),v=.slice p l.length c∧SlR (wm W) p c 21 (l.map TelP.toD)∧∀ x∈l,x.Wf:=by
 obtain ⟨⟨r,b0,h1⟩,_⟩:=id h
 obtain ⟨po,n,cp,rfl⟩:=okWide_slice Tryz.underlying22 h1
 obtain ⟨ds,k1,k2⟩:=h.rep (ks:=[.slice 45]) (by kernel_rfl) (m:=4) (by kernel_rfl)
 obtain ⟨d,_,rfl,k3,k4⟩:=FitL.cons k1
 cases FitL.nil k4
 obtain ⟨rows,rfl,k5⟩:=k3.slice' k_tel
 obtain ⟨l,rfl,hl⟩:=map_of (f:=TelP.toD) (p:=TelP.Wf) (rows:=rows) fun r hr=>fit_tel (k5 r hr)
 obtain ⟨v',_,k6,k7,k8⟩:=RepL.cons k2
 obtain ⟨p,c,rfl,hs⟩:=k7.list sz_tel
 simp only [Value.cells,List.cons.injEq,Value.slice.injEq] at k6
 obtain ⟨⟨rfl,rfl,rfl⟩,_⟩:=k6
 rw [List.length_map]
 exact ⟨l,po,cp,rfl,hs,hl⟩
theorem tels_ok {l:List TelP} (hl:∀ x∈l,x.Wf) (hg:¬great24 l):(∀ x∈l,x.Ok)∧l.length≤60:=by
 refine ⟨fun x hx=>?_,by have:¬60<l.length:=fun h=>hg (.inl h);omega⟩
 have hb:¬x.big:=fun h=>by
  obtain ⟨i,hi⟩:=List.mem_iff_getElem?.1 hx
  exact hg (.inr ⟨i,x,hi,h⟩)
 have b1:¬20<x.c.old.length:=fun h=>hb (.inl h)
 have b2:¬20<x.c.new.length:=fun h=>hb (.inr (.inl h))
 have b3:¬x.s.reg.great:=fun h=>hb (.inr (.inr h))
 have hw:=hl x hx
 exact ⟨hw.c0,⟨by omega,fun z hz=>by have:=hw.co z hz;omega⟩,⟨by omega,fun z hz=>by have:=hw.cn z hz;omega⟩,b3,hw.nd,hw.kw,hw.a1,hw.a2,hw.a3⟩
theorem watchTurned_calls (W:World) (args:Array Value) (hn:args.size=3) (ha:∀ (j:Nat) t v,Tryz.f4.params[j]?=some t→args[j]?=some v→ArgOk Tryz.prog W t v) :
  Calls Tryz.prog 4 args W fun e w'=>e=.returned (.bool true)∧Chg (fun _ _=>False) W w':=by
 obtain ⟨a,b,c,rfl⟩:∃ a b c,args=#[a,b,c]:=⟨args[0],args[1],args[2],by apply Array.ext (by simp [hn]);intro i h1 h2;match i,h1 with | 0,_ | 1,_ | 2,_=>rfl⟩
 obtain ⟨l,p,cp,rfl,hs,hu⟩:=arg_tels (ha 0 22 a rfl rfl)
 obtain ⟨bz,rfl,hb⟩:=(ha 1 5 b rfl rfl).int Tryz.underlying5
 obtain ⟨key,rfl,_⟩:=(ha 2 5 c rfl rfl).int Tryz.underlying5
 by_cases hg:great24 l∨l=[]
 ·exact turned_far l p cp bz key W hs hg
 ·have hb:=u8_wf hb
  obtain ⟨n,rfl⟩:∃ n:Nat,bz=n:=⟨bz.toNat,by omega⟩
  exact turned_in l p cp n key W hs (fun h=>hg (.inl h)) (fun h=>hg (.inr h)) (tels_ok hu fun h=>hg (.inl h)).1 (tels_ok hu fun h=>hg (.inl h)).2 (by omega)
end Go.Proofs.YthpbefahaghbjaaGreat
