import Derived.Test.YthaffebapmkppaaGreatRg9
import Derived.Test.YthaffebapmkppaaGreatLaw
import Derived.Conc.LoneSelectN
import Derived.Test.YthaffebapmkppaaGreatTab
import Derived.Test.YthaffebapmkppaaGreatRe7
import Derived.Test.YthaffebapmkppaaGreatEC
import Derived.Sort.Defs
set_option maxHeartbeats 16000000
set_option maxRecDepth 100000
set_option cbv.maxSteps 100000000
namespace Go.Proofs.YthaffebapmkppaaGreat
open Go Go.Eng
def risesN {α:Type} (g:α→Int):Int→List α→Bool
 | _,[]=>true
 | m,x::l=>bif decide (g x<m) then false else risesN g (IntKind.u64.wrap (g x+1)) l
theorem drop_at {α:Type} {l:List α} {i:Nat} {x:α} (h:l[i]?=some x):l.drop i=x::l.drop (i+1):=by
 obtain ⟨h1,h2⟩:=List.getElem?_eq_some_iff.1 h
 rw [←h2,List.drop_eq_getElem_cons h1]
theorem any_take {α:Type} {f:α→Bool} {l:List α} {i:Nat} {x:α} (h:l[i]?=some x) (h1:(l.take i).any f=false) (h2:f x=false):(l.take (i+1)).any f=false:=by
 rw [List.take_add_one,h]
 simp [h1,h2]
theorem indexMark_ok (l:List MarkP) (f:MarkP→Bool) (g:Nat) (p:Option Addr) (c:Nat) (w:World) (hs:SlR (wm w) p c 3 (l.map MarkP.toD)) (hg:∀ args w,(callFunc g args).run Tryz.prog w=.ok (.enter g args) w) (hp:∀ (i:Nat) (x:MarkP) (vs:List Value) (w1:World),l[i]?=some x→RepL (wm w1) x.toD vs→Calls Tryz.prog g #[.agg vs.toArray] w1 fun e w'=>e=.returned (.bool (f x))∧Chg (fun _ _=>False) w1 w') :
  Calls Tryz.prog 141 #[.slice p l.length c,.func (.func g) #[] #[]] w fun e w'=>(∃ r:Int,e=.returned (.int .i64 r)∧decide (0≤r)=l.any f)∧Chg (fun _ _=>False) w w':=by
 obtain ⟨Q,hQ⟩:∃ Q:Ending→World→Prop,Q=fun e w'=>(∃ r:Int,e=.returned (.int .i64 r)∧decide (0≤r)=l.any f)∧Chg (fun _ _=>False) w w':=⟨_,rfl⟩
 rw [←hQ]
 obtain ⟨n,hn⟩:∃ n,n=l.length:=⟨_,rfl⟩
 have hm:=maxLen_le
 have hl:n≤maxLen:=by rw [hn];exact hs.len
 rw [←hn]
 refine X.begin (rg:=[]) (N:=[]) (ss:=[.slv p n c,.fn g []]) Tryz.func141 rfl B141_ok rfl rfl Sat.std0 ?_
 obtain ⟨im,hime⟩:∃ im,im=elsewhere [] [] w:=⟨_,rfl⟩
 show X (mkE Tryz.prog Tryz.f141 _ w (InR [] []) (elsewhere [] [] w) (fun _ _=>False) (fun _=>True) [] B141) _ _
 rw [←hime]
 refine X.go T141_ok 400 _ rfl Tryz.results141 ?_
 conv=>arg 2;cbv
 refine X.loop1 (fun i:{i:Nat // i≤n∧(l.take i).any f=false}=>⟨[(0,.val (.slv p n c)),(1,.val (.fn g [])),(7,.val (.int .i64 (.nat n))),(8,.val (.int .i64 (.nat i.1)))],[]⟩) (fun i=>n-i.1) (fun N a w' hN hf hS=>⟨⟨0,Nat.zero_le _,rfl⟩,?_⟩) (fun i q' hq'=>?_)
 ·exact At.again hf hS (by repeat first | exact trivial | refine ⟨⟨_,rfl,.inl ⟨rfl,rfl⟩⟩,?_⟩ | refine ⟨⟨_,rfl,.inr ⟨_,rfl,rfl⟩⟩,?_⟩ | refine ⟨⟨_,rfl,.inr ⟨_,rfl,by simp (disch:=omega) [SV.den,SI.den,wrapU,wrapD]<;>omega⟩⟩,?_⟩) trivial
 obtain ⟨i,hi,htk⟩:=i
 refine X.go T141_ok 400 _ rfl Tryz.results141 ?_
 conv=>arg 2;cbv
 refine X.cond rfl (fun hlt=>?_) (fun hge=>?_)
 ·simp only [SB.T,SI.den] at hlt
  have hlt:i<n:=by omega
  obtain ⟨x1,hx1⟩:∃ x,l[i]?=some x:=⟨_,List.getElem?_eq_getElem (by omega)⟩
  obtain ⟨b1,y1,v1,hp1,hr1,hm1⟩:=hs.his hx1
  rw [←hime] at hm1
  obtain ⟨h,hh⟩:∃ h,h=f x1:=⟨_,rfl⟩
  have hc:=fun (w1:World) (hi1:∀ k o v,im k o=some v→w1.cell? ⟨k,o,none⟩=some v)=>hp i x1 _ w1 hx1 (hr1.later hime hi1)
  rw [←hh] at hc
  rw [MarkP.open hr1] at hm1 hc
  refine X.see b1 (y1+i*3) [.int .u8 (.v x1.source),.int .u64 (.v x1.inc),.int .u64 (.v x1.cell)] (see_of hm1 rfl) (by simp) (fun N1 hN1 hNl1=>?_)
  have hg1:(N1++[(⟨b1,y1+i*3,0⟩:Num)])[0]?=some ⟨b1,y1+i*3,0⟩:=num_last hNl1
  refine X.goX ([(14,.own 0 0),(16,.bool (.v h))]) ([]) T141_ok 400 _ rfl Tryz.results141 (fun pr pe fin hpr hpe hfin=>?_)
  conv=>cbv
  refine ⟨hpr _ (ValOk.row rfl rfl (fun _=>rfl) Tryz.underlying32 Tryz.sizeOf151 hlt hp1 hg1 rfl rfl),hpr _ (.of hg [.agg #[.int .u8 x1.source,.int .u64 x1.inc,.int .u64 x1.cell]] (.bool h) (fun _=>rfl) (fun _=>rfl) fun _ w1 hi1=>hc w1 hi1),hfin _ _ ?_⟩
  refine X.cond rfl (fun hT=>?_) (fun hF=>?_)
  ·simp only [SB.T] at hT
   refine X.go T141_ok 400 _ rfl Tryz.results141 ?_
   conv=>arg 2;cbv
   refine X.done T141_ok rfl (fun N w' v hN hS hv=>?_)
   rw [hQ]
   refine ⟨⟨(i:Int),by rw [←(Option.some.inj hv:_=v)];rfl,?_⟩,hS.chg.none⟩
   rw [decide_eq_true (by omega),eq_comm,List.any_eq_true]
   exact ⟨x1,List.mem_of_getElem? hx1,by rw [←hh];exact hT⟩
  ·simp only [SB.F] at hF
   refine X.go T141_ok 400 _ rfl Tryz.results141 ?_
   conv=>arg 2;cbv
   refine X.back (fun N a w' hN hf hS=>hq' ⟨i+1,by omega,any_take hx1 htk (by rw [←hh];exact hF)⟩ a w' (by simp only;omega) ?_)
   exact At.again hf hS (by repeat first | exact trivial | refine ⟨⟨_,rfl,.inl ⟨rfl,rfl⟩⟩,?_⟩ | refine ⟨⟨_,rfl,.inr ⟨_,rfl,rfl⟩⟩,?_⟩ | refine ⟨⟨_,rfl,.inr ⟨_,rfl,by simp (disch:=omega) [SV.den,SI.den,wrapU,wrapD]<;>omega⟩⟩,?_⟩) trivial
 simp only [SB.F,SI.den] at hge
 refine X.go T141_ok 400 _ rfl Tryz.results141 ?_
 conv=>arg 2;cbv
 refine X.done T141_ok rfl (fun N w' v hN hS hv=>?_)
 rw [hQ]
 refine ⟨⟨-1,by rw [←(Option.some.inj hv:_=v)];rfl,?_⟩,hS.chg.none⟩
 rw [List.take_of_length_le (by omega)] at htk
 rw [htk]
 rfl
theorem containsMark_ok (l:List MarkP) (f:MarkP→Bool) (g:Nat) (p:Option Addr) (c:Nat) (w:World) (hs:SlR (wm w) p c 3 (l.map MarkP.toD)) (hg:∀ args w,(callFunc g args).run Tryz.prog w=.ok (.enter g args) w) (hp:∀ (i:Nat) (x:MarkP) (vs:List Value) (w1:World),l[i]?=some x→RepL (wm w1) x.toD vs→Calls Tryz.prog g #[.agg vs.toArray] w1 fun e w'=>e=.returned (.bool (f x))∧Chg (fun _ _=>False) w1 w') :
  Calls Tryz.prog 115 #[.slice p l.length c,.func (.func g) #[] #[]] w fun e w'=>e=.returned (.bool (l.any f))∧Chg (fun _ _=>False) w w':=by
 obtain ⟨n,hn⟩:∃ n,n=l.length:=⟨_,rfl⟩
 obtain ⟨q,hq⟩:∃ q,q=l.any f:=⟨_,rfl⟩
 rw [←hn,←hq]
 refine X.begin (rg:=[]) (N:=[]) (ss:=[.slv p n c,.fn g []]) Tryz.func115 rfl B115_ok rfl rfl Sat.std0 ?_
 refine X.go T115_ok 400 _ rfl Tryz.results115 ?_
 conv=>arg 2;cbv
 refine X.call rfl rfl rfl rfl Tryz.call141 (fun N w1 args hN hS ha=>?_)
 have ha:args=[.slice p n c,.func (.func g) #[] #[]]:=(Option.some.inj ha).symm
 rw [ha,hn]
 refine (indexMark_ok l f g p c w1 (hs.later rfl hS.imm) hg hp).mono fun e w2 hR=>?_
 obtain ⟨⟨r,he,hr⟩,hch⟩:=hR
 refine ⟨_,he,Goes.same hN hS hch (r:=.int .i64 (.v r)) rfl rfl ?_⟩
 refine X.go T115_ok 400 _ rfl Tryz.results115 ?_
 conv=>arg 2;cbv
 refine X.done T115_ok rfl (fun N w' v hN hS hv=>⟨fin_bool hv ?_,hS.chg.mono fun k o _ h=>inR_nil h⟩)
 rw [hq,←hr]
 rfl
theorem indexDone_ok (l:List DoneP) (f:DoneP→Bool) (g:Nat) (p:Option Addr) (c:Nat) (w:World) (hs:SlR (wm w) p c 6 (l.map DoneP.toD)) (hg:∀ args w,(callFunc g args).run Tryz.prog w=.ok (.enter g args) w) (hp:∀ (i:Nat) (x:DoneP) (vs:List Value) (w1:World),l[i]?=some x→RepL (wm w1) x.toD vs→Calls Tryz.prog g #[.agg vs.toArray] w1 fun e w'=>e=.returned (.bool (f x))∧Chg (fun _ _=>False) w1 w') :
  Calls Tryz.prog 139 #[.slice p l.length c,.func (.func g) #[] #[]] w fun e w'=>(∃ r:Int,e=.returned (.int .i64 r)∧decide (0≤r)=l.any f)∧Chg (fun _ _=>False) w w':=by
 obtain ⟨Q,hQ⟩:∃ Q:Ending→World→Prop,Q=fun e w'=>(∃ r:Int,e=.returned (.int .i64 r)∧decide (0≤r)=l.any f)∧Chg (fun _ _=>False) w w':=⟨_,rfl⟩
 rw [←hQ]
 obtain ⟨n,hn⟩:∃ n,n=l.length:=⟨_,rfl⟩
 have hm:=maxLen_le
 have hl:n≤maxLen:=by rw [hn];exact hs.len
 rw [←hn]
 refine X.begin (rg:=[]) (N:=[]) (ss:=[.slv p n c,.fn g []]) Tryz.func139 rfl B139_ok rfl rfl Sat.std0 ?_
 obtain ⟨im,hime⟩:∃ im,im=elsewhere [] [] w:=⟨_,rfl⟩
 show X (mkE Tryz.prog Tryz.f139 _ w (InR [] []) (elsewhere [] [] w) (fun _ _=>False) (fun _=>True) [] B139) _ _
 rw [←hime]
 refine X.go T139_ok 400 _ rfl Tryz.results139 ?_
 conv=>arg 2;cbv
 refine X.loop1 (fun i:{i:Nat // i≤n∧(l.take i).any f=false}=>⟨[(0,.val (.slv p n c)),(1,.val (.fn g [])),(7,.val (.int .i64 (.nat n))),(8,.val (.int .i64 (.nat i.1)))],[]⟩) (fun i=>n-i.1) (fun N a w' hN hf hS=>⟨⟨0,Nat.zero_le _,rfl⟩,?_⟩) (fun i q' hq'=>?_)
 ·exact At.again hf hS (by repeat first | exact trivial | refine ⟨⟨_,rfl,.inl ⟨rfl,rfl⟩⟩,?_⟩ | refine ⟨⟨_,rfl,.inr ⟨_,rfl,rfl⟩⟩,?_⟩ | refine ⟨⟨_,rfl,.inr ⟨_,rfl,by simp (disch:=omega) [SV.den,SI.den,wrapU,wrapD]<;>omega⟩⟩,?_⟩) trivial
 obtain ⟨i,hi,htk⟩:=i
 refine X.go T139_ok 400 _ rfl Tryz.results139 ?_
 conv=>arg 2;cbv
 refine X.cond rfl (fun hlt=>?_) (fun hge=>?_)
 ·simp only [SB.T,SI.den] at hlt
  have hlt:i<n:=by omega
  obtain ⟨x1,hx1⟩:∃ x,l[i]?=some x:=⟨_,List.getElem?_eq_getElem (by omega)⟩
  obtain ⟨b1,y1,v1,hp1,hr1,hm1⟩:=hs.his hx1
  rw [←hime] at hm1
  obtain ⟨h,hh⟩:∃ h,h=f x1:=⟨_,rfl⟩
  have hc:=fun (w1:World) (hi1:∀ k o v,im k o=some v→w1.cell? ⟨k,o,none⟩=some v)=>hp i x1 _ w1 hx1 (hr1.later hime hi1)
  rw [←hh] at hc
  obtain ⟨pa,ca,rfl⟩:=DoneP.cells hr1
  obtain ⟨na,hna⟩:∃ n,n=x1.reply.vars.length:=⟨_,rfl⟩
  rw [←hna] at hm1 hc
  refine X.see b1 (y1+i*6) [.int .u8 (.v x1.client),.int .u64 (.v x1.seq),.int .i64 (.v x1.reply.err),.int .u64 (.v x1.reply.inc),.int .i64 (.v x1.reply.state),.slv pa na ca] (see_of hm1 rfl) (by simp) (fun N1 hN1 hNl1=>?_)
  have hg1:(N1++[(⟨b1,y1+i*6,0⟩:Num)])[0]?=some ⟨b1,y1+i*6,0⟩:=num_last hNl1
  refine X.goX ([(14,.own 0 0),(16,.bool (.v h))]) ([]) T139_ok 400 _ rfl Tryz.results139 (fun pr pe fin hpr hpe hfin=>?_)
  conv=>cbv
  refine ⟨hpr _ (ValOk.row rfl rfl (fun _=>rfl) Tryz.underlying30 Tryz.sizeOf94 hlt hp1 hg1 rfl rfl),hpr _ (.of hg [.agg #[.int .u8 x1.client,.int .u64 x1.seq,.int .i64 x1.reply.err,.int .u64 x1.reply.inc,.int .i64 x1.reply.state,.slice pa na ca]] (.bool h) (fun _=>rfl) (fun _=>rfl) fun _ w1 hi1=>hc w1 hi1),hfin _ _ ?_⟩
  refine X.cond rfl (fun hT=>?_) (fun hF=>?_)
  ·simp only [SB.T] at hT
   refine X.go T139_ok 400 _ rfl Tryz.results139 ?_
   conv=>arg 2;cbv
   refine X.done T139_ok rfl (fun N w' v hN hS hv=>?_)
   rw [hQ]
   refine ⟨⟨(i:Int),by rw [←(Option.some.inj hv:_=v)];rfl,?_⟩,hS.chg.none⟩
   rw [decide_eq_true (by omega),eq_comm,List.any_eq_true]
   exact ⟨x1,List.mem_of_getElem? hx1,by rw [←hh];exact hT⟩
  ·simp only [SB.F] at hF
   refine X.go T139_ok 400 _ rfl Tryz.results139 ?_
   conv=>arg 2;cbv
   refine X.back (fun N a w' hN hf hS=>hq' ⟨i+1,by omega,any_take hx1 htk (by rw [←hh];exact hF)⟩ a w' (by simp only;omega) ?_)
   exact At.again hf hS (by repeat first | exact trivial | refine ⟨⟨_,rfl,.inl ⟨rfl,rfl⟩⟩,?_⟩ | refine ⟨⟨_,rfl,.inr ⟨_,rfl,rfl⟩⟩,?_⟩ | refine ⟨⟨_,rfl,.inr ⟨_,rfl,by simp (disch:=omega) [SV.den,SI.den,wrapU,wrapD]<;>omega⟩⟩,?_⟩) trivial
 simp only [SB.F,SI.den] at hge
 refine X.go T139_ok 400 _ rfl Tryz.results139 ?_
 conv=>arg 2;cbv
 refine X.done T139_ok rfl (fun N w' v hN hS hv=>?_)
 rw [hQ]
 refine ⟨⟨-1,by rw [←(Option.some.inj hv:_=v)];rfl,?_⟩,hS.chg.none⟩
 rw [List.take_of_length_le (by omega)] at htk
 rw [htk]
 rfl
theorem containsDone_ok (l:List DoneP) (f:DoneP→Bool) (g:Nat) (p:Option Addr) (c:Nat) (w:World) (hs:SlR (wm w) p c 6 (l.map DoneP.toD)) (hg:∀ args w,(callFunc g args).run Tryz.prog w=.ok (.enter g args) w) (hp:∀ (i:Nat) (x:DoneP) (vs:List Value) (w1:World),l[i]?=some x→RepL (wm w1) x.toD vs→Calls Tryz.prog g #[.agg vs.toArray] w1 fun e w'=>e=.returned (.bool (f x))∧Chg (fun _ _=>False) w1 w') :
  Calls Tryz.prog 106 #[.slice p l.length c,.func (.func g) #[] #[]] w fun e w'=>e=.returned (.bool (l.any f))∧Chg (fun _ _=>False) w w':=by
 obtain ⟨n,hn⟩:∃ n,n=l.length:=⟨_,rfl⟩
 obtain ⟨q,hq⟩:∃ q,q=l.any f:=⟨_,rfl⟩
 rw [←hn,←hq]
 refine X.begin (rg:=[]) (N:=[]) (ss:=[.slv p n c,.fn g []]) Tryz.func106 rfl B106_ok rfl rfl Sat.std0 ?_
 refine X.go T106_ok 400 _ rfl Tryz.results106 ?_
 conv=>arg 2;cbv
 refine X.call rfl rfl rfl rfl Tryz.call139 (fun N w1 args hN hS ha=>?_)
 have ha:args=[.slice p n c,.func (.func g) #[] #[]]:=(Option.some.inj ha).symm
 rw [ha,hn]
 refine (indexDone_ok l f g p c w1 (hs.later rfl hS.imm) hg hp).mono fun e w2 hR=>?_
 obtain ⟨⟨r,he,hr⟩,hch⟩:=hR
 refine ⟨_,he,Goes.same hN hS hch (r:=.int .i64 (.v r)) rfl rfl ?_⟩
 refine X.go T106_ok 400 _ rfl Tryz.results106 ?_
 conv=>arg 2;cbv
 refine X.done T106_ok rfl (fun N w' v hN hS hv=>⟨fin_bool hv ?_,hS.chg.mono fun k o _ h=>inR_nil h⟩)
 rw [hq,←hr]
 rfl
theorem indexCell_ok (l:List CellP) (f:CellP→Bool) (g:Nat) (cb co:Nat) (cv:Value) (p:Option Addr) (c:Nat) (w:World) (hs:SlR (wm w) p c 4 (l.map CellP.toD)) (hcv:w.cell? ⟨cb,co,none⟩=some cv) (hg:∀ args w,(callFunc g args).run Tryz.prog w=.ok (.enter g args) w) (hp:∀ (i:Nat) (x:CellP) (vs:List Value) (w1:World),l[i]?=some x→RepL (wm w1) x.toD vs→w1.cell? ⟨cb,co,none⟩=some cv→Calls Tryz.prog g #[.agg vs.toArray,.pointer (some ⟨cb,co,none⟩)] w1 fun e w'=>e=.returned (.bool (f x))∧Chg (fun _ _=>False) w1 w') :
  Calls Tryz.prog 140 #[.slice p l.length c,.func (.func g) #[] #[.pointer (some ⟨cb,co,none⟩)]] w fun e w'=>(∃ r:Int,e=.returned (.int .i64 r)∧decide (0≤r)=l.any f)∧Chg (fun _ _=>False) w w':=by
 obtain ⟨Q,hQ⟩:∃ Q:Ending→World→Prop,Q=fun e w'=>(∃ r:Int,e=.returned (.int .i64 r)∧decide (0≤r)=l.any f)∧Chg (fun _ _=>False) w w':=⟨_,rfl⟩
 rw [←hQ]
 obtain ⟨n,hn⟩:∃ n,n=l.length:=⟨_,rfl⟩
 have hm:=maxLen_le
 have hl:n≤maxLen:=by rw [hn];exact hs.len
 rw [←hn]
 refine X.begin (rg:=[]) (N:=[]) (ss:=[.slv p n c,.fn g [.ext cb co 0]]) Tryz.func140 rfl B140_ok rfl rfl Sat.std0 ?_
 obtain ⟨im,hime⟩:∃ im,im=elsewhere [] [] w:=⟨_,rfl⟩
 show X (mkE Tryz.prog Tryz.f140 _ w (InR [] []) (elsewhere [] [] w) (fun _ _=>False) (fun _=>True) [] B140) _ _
 rw [←hime]
 refine X.go T140_ok 400 _ rfl Tryz.results140 ?_
 conv=>arg 2;cbv
 refine X.loop1 (fun i:{i:Nat // i≤n∧(l.take i).any f=false}=>⟨[(0,.val (.slv p n c)),(1,.val (.fn g [.ext cb co 0])),(7,.val (.int .i64 (.nat n))),(8,.val (.int .i64 (.nat i.1)))],[]⟩) (fun i=>n-i.1) (fun N a w' hN hf hS=>⟨⟨0,Nat.zero_le _,rfl⟩,?_⟩) (fun i q' hq'=>?_)
 ·exact At.again hf hS (by repeat first | exact trivial | refine ⟨⟨_,rfl,.inl ⟨rfl,rfl⟩⟩,?_⟩ | refine ⟨⟨_,rfl,.inr ⟨_,rfl,rfl⟩⟩,?_⟩ | refine ⟨⟨_,rfl,.inr ⟨_,rfl,by simp (disch:=omega) [SV.den,SI.den,wrapU,wrapD]<;>omega⟩⟩,?_⟩) trivial
 obtain ⟨i,hi,htk⟩:=i
 refine X.go T140_ok 400 _ rfl Tryz.results140 ?_
 conv=>arg 2;cbv
 refine X.cond rfl (fun hlt=>?_) (fun hge=>?_)
 ·simp only [SB.T,SI.den] at hlt
  have hlt:i<n:=by omega
  obtain ⟨x1,hx1⟩:∃ x,l[i]?=some x:=⟨_,List.getElem?_eq_getElem (by omega)⟩
  obtain ⟨b1,y1,v1,hp1,hr1,hm1⟩:=hs.his hx1
  rw [←hime] at hm1
  obtain ⟨h,hh⟩:∃ h,h=f x1:=⟨_,rfl⟩
  have hc:=fun (w1:World) (hi1:∀ k o v,im k o=some v→w1.cell? ⟨k,o,none⟩=some v)=>hp i x1 _ w1 hx1 (hr1.later hime hi1) (hi1 _ _ _ (by rw [hime];exact his hcv))
  rw [←hh] at hc
  rw [CellP.open hr1] at hm1 hc
  refine X.see b1 (y1+i*4) [.int .u64 (.v x1.n),.int .u8 (.v x1.target),.int .i64 (.v x1.action),.int .i64 (.v x1.arg)] (see_of hm1 rfl) (by simp) (fun N1 hN1 hNl1=>?_)
  have hg1:(N1++[(⟨b1,y1+i*4,0⟩:Num)])[0]?=some ⟨b1,y1+i*4,0⟩:=num_last hNl1
  refine X.goX ([(14,.own 0 0),(16,.bool (.v h))]) ([]) T140_ok 400 _ rfl Tryz.results140 (fun pr pe fin hpr hpe hfin=>?_)
  conv=>cbv
  refine ⟨hpr _ (ValOk.row rfl rfl (fun _=>rfl) Tryz.underlying31 Tryz.sizeOf148 hlt hp1 hg1 rfl rfl),hpr _ (.of hg [.agg #[.int .u64 x1.n,.int .u8 x1.target,.int .i64 x1.action,.int .i64 x1.arg],.pointer (some ⟨cb,co,none⟩)] (.bool h) (fun _=>rfl) (fun _=>rfl) fun _ w1 hi1=>hc w1 hi1),hfin _ _ ?_⟩
  refine X.cond rfl (fun hT=>?_) (fun hF=>?_)
  ·simp only [SB.T] at hT
   refine X.go T140_ok 400 _ rfl Tryz.results140 ?_
   conv=>arg 2;cbv
   refine X.done T140_ok rfl (fun N w' v hN hS hv=>?_)
   rw [hQ]
   refine ⟨⟨(i:Int),by rw [←(Option.some.inj hv:_=v)];rfl,?_⟩,hS.chg.none⟩
   rw [decide_eq_true (by omega),eq_comm,List.any_eq_true]
   exact ⟨x1,List.mem_of_getElem? hx1,by rw [←hh];exact hT⟩
  ·simp only [SB.F] at hF
   refine X.go T140_ok 400 _ rfl Tryz.results140 ?_
   conv=>arg 2;cbv
   refine X.back (fun N a w' hN hf hS=>hq' ⟨i+1,by omega,any_take hx1 htk (by rw [←hh];exact hF)⟩ a w' (by simp only;omega) ?_)
   exact At.again hf hS (by repeat first | exact trivial | refine ⟨⟨_,rfl,.inl ⟨rfl,rfl⟩⟩,?_⟩ | refine ⟨⟨_,rfl,.inr ⟨_,rfl,rfl⟩⟩,?_⟩ | refine ⟨⟨_,rfl,.inr ⟨_,rfl,by simp (disch:=omega) [SV.den,SI.den,wrapU,wrapD]<;>omega⟩⟩,?_⟩) trivial
 simp only [SB.F,SI.den] at hge
 refine X.go T140_ok 400 _ rfl Tryz.results140 ?_
 conv=>arg 2;cbv
 refine X.done T140_ok rfl (fun N w' v hN hS hv=>?_)
 rw [hQ]
 refine ⟨⟨-1,by rw [←(Option.some.inj hv:_=v)];rfl,?_⟩,hS.chg.none⟩
 rw [List.take_of_length_le (by omega)] at htk
 rw [htk]
 rfl
theorem containsCell_ok (l:List CellP) (f:CellP→Bool) (g:Nat) (cb co:Nat) (cv:Value) (p:Option Addr) (c:Nat) (w:World) (hs:SlR (wm w) p c 4 (l.map CellP.toD)) (hcv:w.cell? ⟨cb,co,none⟩=some cv) (hg:∀ args w,(callFunc g args).run Tryz.prog w=.ok (.enter g args) w) (hp:∀ (i:Nat) (x:CellP) (vs:List Value) (w1:World),l[i]?=some x→RepL (wm w1) x.toD vs→w1.cell? ⟨cb,co,none⟩=some cv→Calls Tryz.prog g #[.agg vs.toArray,.pointer (some ⟨cb,co,none⟩)] w1 fun e w'=>e=.returned (.bool (f x))∧Chg (fun _ _=>False) w1 w') :
  Calls Tryz.prog 111 #[.slice p l.length c,.func (.func g) #[] #[.pointer (some ⟨cb,co,none⟩)]] w fun e w'=>e=.returned (.bool (l.any f))∧Chg (fun _ _=>False) w w':=by
 obtain ⟨n,hn⟩:∃ n,n=l.length:=⟨_,rfl⟩
 obtain ⟨q,hq⟩:∃ q,q=l.any f:=⟨_,rfl⟩
 rw [←hn,←hq]
 refine X.begin (rg:=[]) (N:=[]) (ss:=[.slv p n c,.fn g [.ext cb co 0]]) Tryz.func111 rfl B111_ok rfl rfl Sat.std0 ?_
 refine X.go T111_ok 400 _ rfl Tryz.results111 ?_
 conv=>arg 2;cbv
 refine X.call rfl rfl rfl rfl Tryz.call140 (fun N w1 args hN hS ha=>?_)
 have ha:args=[.slice p n c,.func (.func g) #[] #[.pointer (some ⟨cb,co,none⟩)]]:=(Option.some.inj ha).symm
 rw [ha,hn]
 refine (indexCell_ok l f g cb co cv p c w1 (hs.later rfl hS.imm) (hS.imm _ _ _ (his hcv)) hg hp).mono fun e w2 hR=>?_
 obtain ⟨⟨r,he,hr⟩,hch⟩:=hR
 refine ⟨_,he,Goes.same hN hS hch (r:=.int .i64 (.v r)) rfl rfl ?_⟩
 refine X.go T111_ok 400 _ rfl Tryz.results111 ?_
 conv=>arg 2;cbv
 refine X.done T111_ok rfl (fun N w' v hN hS hv=>⟨fin_bool hv ?_,hS.chg.mono fun k o _ h=>inR_nil h⟩)
 rw [hq,←hr]
 rfl
theorem risesMark_ok (l:List MarkP) (f:MarkP→Int) (g:Nat) (m:Int) (p:Option Addr) (c:Nat) (w:World) (hs:SlR (wm w) p c 3 (l.map MarkP.toD)) (hg:∀ args w,(callFunc g args).run Tryz.prog w=.ok (.enter g args) w) (hp:∀ (i:Nat) (x:MarkP) (vs:List Value) (w1:World),l[i]?=some x→RepL (wm w1) x.toD vs→Calls Tryz.prog g #[.agg vs.toArray] w1 fun e w'=>e=.returned (.int .u64 (f x))∧Chg (fun _ _=>False) w1 w') :
  Calls Tryz.prog 117 #[.slice p l.length c,.int .u64 m,.func (.func g) #[] #[]] w fun e w'=>e=.returned (.bool (risesN f m l))∧Chg (fun _ _=>False) w w':=by
 obtain ⟨n,hn⟩:∃ n,n=l.length:=⟨_,rfl⟩
 obtain ⟨q,hq⟩:∃ q,q=risesN f m l:=⟨_,rfl⟩
 have hm:=maxLen_le
 have hl:n≤maxLen:=by rw [hn];exact hs.len
 rw [←hn,←hq]
 refine X.begin (rg:=[]) (N:=[]) (ss:=[.slv p n c,.int .u64 (.v m),.fn g []]) Tryz.func117 rfl B117_ok rfl rfl Sat.std0 ?_
 obtain ⟨im,hime⟩:∃ im,im=elsewhere [] [] w:=⟨_,rfl⟩
 show X (mkE Tryz.prog Tryz.f117 _ w (InR [] []) (elsewhere [] [] w) (fun _ _=>False) (fun _=>True) [] B117) _ _
 rw [←hime]
 refine X.go T117_ok 400 _ rfl Tryz.results117 ?_
 conv=>arg 2;cbv
 refine X.loop1 (fun i:{i:Nat × Int // i.1≤n∧q=risesN f i.2 (l.drop i.1)}=>⟨[(1,.val (.int .u64 (.v i.1.2))),(2,.val (.fn g [])),(10,.val (.slv p n c)),(11,.val (.int .i64 (.nat n))),(12,.val (.int .i64 (.nat i.1.1)))],[]⟩) (fun i=>n-i.1.1) (fun N a w' hN hf hS=>⟨⟨(0,m),Nat.zero_le _,by simpa using hq⟩,?_⟩) (fun i q' hq'=>?_)
 ·exact At.again hf hS (by repeat first | exact trivial | refine ⟨⟨_,rfl,.inl ⟨rfl,rfl⟩⟩,?_⟩ | refine ⟨⟨_,rfl,.inr ⟨_,rfl,rfl⟩⟩,?_⟩ | refine ⟨⟨_,rfl,.inr ⟨_,rfl,by simp (disch:=omega) [SV.den,SI.den,wrapU,wrapD]<;>omega⟩⟩,?_⟩) trivial
 obtain ⟨⟨i,m1⟩,hi,htk⟩:=i
 simp only at hi htk
 show X _ _ ⟨[(1,.val (.int .u64 (.v m1))),(2,.val (.fn g [])),(10,.val (.slv p n c)),(11,.val (.int .i64 (.nat n))),(12,.val (.int .i64 (.nat i)))],[]⟩
 refine X.go T117_ok 400 _ rfl Tryz.results117 ?_
 conv=>arg 2;cbv
 refine X.cond rfl (fun hlt=>?_) (fun hge=>?_)
 ·simp only [SB.T,SI.den] at hlt
  have hlt:i<n:=by omega
  obtain ⟨x1,hx1⟩:∃ x,l[i]?=some x:=⟨_,List.getElem?_eq_getElem (by omega)⟩
  obtain ⟨b1,y1,v1,hp1,hr1,hm1⟩:=hs.his hx1
  rw [←hime] at hm1
  rw [drop_at hx1] at htk
  obtain ⟨h,hh⟩:∃ h,h=f x1:=⟨_,rfl⟩
  have hc:=fun (w1:World) (hi1:∀ k o v,im k o=some v→w1.cell? ⟨k,o,none⟩=some v)=>hp i x1 _ w1 hx1 (hr1.later hime hi1)
  rw [←hh] at hc
  simp only [risesN,←hh] at htk
  obtain ⟨m2,hm2⟩:∃ z,z=IntKind.u64.wrap (h+1):=⟨_,rfl⟩
  rw [←hm2] at htk
  rw [MarkP.open hr1] at hm1 hc
  refine X.see b1 (y1+i*3) [.int .u8 (.v x1.source),.int .u64 (.v x1.inc),.int .u64 (.v x1.cell)] (see_of hm1 rfl) (by simp) (fun N1 hN1 hNl1=>?_)
  have hg1:(N1++[(⟨b1,y1+i*3,0⟩:Num)])[0]?=some ⟨b1,y1+i*3,0⟩:=num_last hNl1
  refine X.goX ([(14,.own 0 0),(18,.int .u64 (.v h))]) ([]) T117_ok 400 _ rfl Tryz.results117 (fun pr pe fin hpr hpe hfin=>?_)
  conv=>cbv
  refine ⟨hpr _ (ValOk.row rfl rfl (fun _=>rfl) Tryz.underlying32 Tryz.sizeOf151 hlt hp1 hg1 rfl rfl),hpr _ (.of hg [.agg #[.int .u8 x1.source,.int .u64 x1.inc,.int .u64 x1.cell]] (.int .u64 h) (fun _=>rfl) (fun _=>rfl) fun _ w1 hi1=>hc w1 hi1),hfin _ _ ?_⟩
  refine X.cond rfl (fun hT=>?_) (fun hF=>?_)
  ·simp only [SB.T,SI.den] at hT
   rw [decide_eq_true hT] at htk
   refine X.go T117_ok 400 _ rfl Tryz.results117 ?_
   conv=>arg 2;cbv
   refine X.done T117_ok rfl (fun N w' v hN hS hv=>⟨fin_bool hv ?_,hS.chg.mono fun k o _ h=>inR_nil h⟩)
   rw [htk]
   rfl
  ·simp only [SB.F,SI.den] at hF
   rw [decide_eq_false (by omega)] at htk
   refine X.go T117_ok 400 _ rfl Tryz.results117 ?_
   conv=>arg 2;cbv
   refine X.reval 1 (.int .u64 (.v m2)) rfl (fun N _ v hv=>by rw [←hv,hm2];rfl) ?_
   refine X.back (fun N a w' hN hf hS=>hq' ⟨(i+1,m2),by omega,htk⟩ a w' (by simp only;omega) ?_)
   show At _ ⟨[(1,.val (.int .u64 (.v m2))),(2,.val (.fn g [])),(10,.val (.slv p n c)),(11,.val (.int .i64 (.nat n))),(12,.val (.int .i64 (.nat (i+1))))],[]⟩ a w'
   exact At.again hf hS (by repeat first | exact trivial | refine ⟨⟨_,rfl,.inl ⟨rfl,rfl⟩⟩,?_⟩ | refine ⟨⟨_,rfl,.inr ⟨_,rfl,rfl⟩⟩,?_⟩ | refine ⟨⟨_,rfl,.inr ⟨_,rfl,by simp (disch:=omega) [SV.den,SI.den,wrapU,wrapD]<;>omega⟩⟩,?_⟩) trivial
 simp only [SB.F,SI.den] at hge
 refine X.go T117_ok 400 _ rfl Tryz.results117 ?_
 conv=>arg 2;cbv
 refine X.done T117_ok rfl (fun N w' v hN hS hv=>⟨fin_bool hv ?_,hS.chg.mono fun k o _ h=>inR_nil h⟩)
 rw [htk,List.drop_of_length_le (by omega)]
 rfl
theorem risesDone_ok (l:List DoneP) (f:DoneP→Int) (g:Nat) (m:Int) (p:Option Addr) (c:Nat) (w:World) (hs:SlR (wm w) p c 6 (l.map DoneP.toD)) (hg:∀ args w,(callFunc g args).run Tryz.prog w=.ok (.enter g args) w) (hp:∀ (i:Nat) (x:DoneP) (vs:List Value) (w1:World),l[i]?=some x→RepL (wm w1) x.toD vs→Calls Tryz.prog g #[.agg vs.toArray] w1 fun e w'=>e=.returned (.int .u64 (f x))∧Chg (fun _ _=>False) w1 w') :
  Calls Tryz.prog 109 #[.slice p l.length c,.int .u64 m,.func (.func g) #[] #[]] w fun e w'=>e=.returned (.bool (risesN f m l))∧Chg (fun _ _=>False) w w':=by
 obtain ⟨n,hn⟩:∃ n,n=l.length:=⟨_,rfl⟩
 obtain ⟨q,hq⟩:∃ q,q=risesN f m l:=⟨_,rfl⟩
 have hm:=maxLen_le
 have hl:n≤maxLen:=by rw [hn];exact hs.len
 rw [←hn,←hq]
 refine X.begin (rg:=[]) (N:=[]) (ss:=[.slv p n c,.int .u64 (.v m),.fn g []]) Tryz.func109 rfl B109_ok rfl rfl Sat.std0 ?_
 obtain ⟨im,hime⟩:∃ im,im=elsewhere [] [] w:=⟨_,rfl⟩
 show X (mkE Tryz.prog Tryz.f109 _ w (InR [] []) (elsewhere [] [] w) (fun _ _=>False) (fun _=>True) [] B109) _ _
 rw [←hime]
 refine X.go T109_ok 400 _ rfl Tryz.results109 ?_
 conv=>arg 2;cbv
 refine X.loop1 (fun i:{i:Nat × Int // i.1≤n∧q=risesN f i.2 (l.drop i.1)}=>⟨[(1,.val (.int .u64 (.v i.1.2))),(2,.val (.fn g [])),(10,.val (.slv p n c)),(11,.val (.int .i64 (.nat n))),(12,.val (.int .i64 (.nat i.1.1)))],[]⟩) (fun i=>n-i.1.1) (fun N a w' hN hf hS=>⟨⟨(0,m),Nat.zero_le _,by simpa using hq⟩,?_⟩) (fun i q' hq'=>?_)
 ·exact At.again hf hS (by repeat first | exact trivial | refine ⟨⟨_,rfl,.inl ⟨rfl,rfl⟩⟩,?_⟩ | refine ⟨⟨_,rfl,.inr ⟨_,rfl,rfl⟩⟩,?_⟩ | refine ⟨⟨_,rfl,.inr ⟨_,rfl,by simp (disch:=omega) [SV.den,SI.den,wrapU,wrapD]<;>omega⟩⟩,?_⟩) trivial
 obtain ⟨⟨i,m1⟩,hi,htk⟩:=i
 simp only at hi htk
 show X _ _ ⟨[(1,.val (.int .u64 (.v m1))),(2,.val (.fn g [])),(10,.val (.slv p n c)),(11,.val (.int .i64 (.nat n))),(12,.val (.int .i64 (.nat i)))],[]⟩
 refine X.go T109_ok 400 _ rfl Tryz.results109 ?_
 conv=>arg 2;cbv
 refine X.cond rfl (fun hlt=>?_) (fun hge=>?_)
 ·simp only [SB.T,SI.den] at hlt
  have hlt:i<n:=by omega
  obtain ⟨x1,hx1⟩:∃ x,l[i]?=some x:=⟨_,List.getElem?_eq_getElem (by omega)⟩
  obtain ⟨b1,y1,v1,hp1,hr1,hm1⟩:=hs.his hx1
  rw [←hime] at hm1
  rw [drop_at hx1] at htk
  obtain ⟨h,hh⟩:∃ h,h=f x1:=⟨_,rfl⟩
  have hc:=fun (w1:World) (hi1:∀ k o v,im k o=some v→w1.cell? ⟨k,o,none⟩=some v)=>hp i x1 _ w1 hx1 (hr1.later hime hi1)
  rw [←hh] at hc
  simp only [risesN,←hh] at htk
  obtain ⟨m2,hm2⟩:∃ z,z=IntKind.u64.wrap (h+1):=⟨_,rfl⟩
  rw [←hm2] at htk
  obtain ⟨pa,ca,rfl⟩:=DoneP.cells hr1
  obtain ⟨na,hna⟩:∃ n,n=x1.reply.vars.length:=⟨_,rfl⟩
  rw [←hna] at hm1 hc
  refine X.see b1 (y1+i*6) [.int .u8 (.v x1.client),.int .u64 (.v x1.seq),.int .i64 (.v x1.reply.err),.int .u64 (.v x1.reply.inc),.int .i64 (.v x1.reply.state),.slv pa na ca] (see_of hm1 rfl) (by simp) (fun N1 hN1 hNl1=>?_)
  have hg1:(N1++[(⟨b1,y1+i*6,0⟩:Num)])[0]?=some ⟨b1,y1+i*6,0⟩:=num_last hNl1
  refine X.goX ([(14,.own 0 0),(18,.int .u64 (.v h))]) ([]) T109_ok 400 _ rfl Tryz.results109 (fun pr pe fin hpr hpe hfin=>?_)
  conv=>cbv
  refine ⟨hpr _ (ValOk.row rfl rfl (fun _=>rfl) Tryz.underlying30 Tryz.sizeOf94 hlt hp1 hg1 rfl rfl),hpr _ (.of hg [.agg #[.int .u8 x1.client,.int .u64 x1.seq,.int .i64 x1.reply.err,.int .u64 x1.reply.inc,.int .i64 x1.reply.state,.slice pa na ca]] (.int .u64 h) (fun _=>rfl) (fun _=>rfl) fun _ w1 hi1=>hc w1 hi1),hfin _ _ ?_⟩
  refine X.cond rfl (fun hT=>?_) (fun hF=>?_)
  ·simp only [SB.T,SI.den] at hT
   rw [decide_eq_true hT] at htk
   refine X.go T109_ok 400 _ rfl Tryz.results109 ?_
   conv=>arg 2;cbv
   refine X.done T109_ok rfl (fun N w' v hN hS hv=>⟨fin_bool hv ?_,hS.chg.mono fun k o _ h=>inR_nil h⟩)
   rw [htk]
   rfl
  ·simp only [SB.F,SI.den] at hF
   rw [decide_eq_false (by omega)] at htk
   refine X.go T109_ok 400 _ rfl Tryz.results109 ?_
   conv=>arg 2;cbv
   refine X.reval 1 (.int .u64 (.v m2)) rfl (fun N _ v hv=>by rw [←hv,hm2];rfl) ?_
   refine X.back (fun N a w' hN hf hS=>hq' ⟨(i+1,m2),by omega,htk⟩ a w' (by simp only;omega) ?_)
   show At _ ⟨[(1,.val (.int .u64 (.v m2))),(2,.val (.fn g [])),(10,.val (.slv p n c)),(11,.val (.int .i64 (.nat n))),(12,.val (.int .i64 (.nat (i+1))))],[]⟩ a w'
   exact At.again hf hS (by repeat first | exact trivial | refine ⟨⟨_,rfl,.inl ⟨rfl,rfl⟩⟩,?_⟩ | refine ⟨⟨_,rfl,.inr ⟨_,rfl,rfl⟩⟩,?_⟩ | refine ⟨⟨_,rfl,.inr ⟨_,rfl,by simp (disch:=omega) [SV.den,SI.den,wrapU,wrapD]<;>omega⟩⟩,?_⟩) trivial
 simp only [SB.F,SI.den] at hge
 refine X.go T109_ok 400 _ rfl Tryz.results109 ?_
 conv=>arg 2;cbv
 refine X.done T109_ok rfl (fun N w' v hN hS hv=>⟨fin_bool hv ?_,hS.chg.mono fun k o _ h=>inR_nil h⟩)
 rw [htk,List.drop_of_length_le (by omega)]
 rfl
theorem risesCell_ok (l:List CellP) (f:CellP→Int) (g:Nat) (m:Int) (p:Option Addr) (c:Nat) (w:World) (hs:SlR (wm w) p c 4 (l.map CellP.toD)) (hg:∀ args w,(callFunc g args).run Tryz.prog w=.ok (.enter g args) w) (hp:∀ (i:Nat) (x:CellP) (vs:List Value) (w1:World),l[i]?=some x→RepL (wm w1) x.toD vs→Calls Tryz.prog g #[.agg vs.toArray] w1 fun e w'=>e=.returned (.int .u64 (f x))∧Chg (fun _ _=>False) w1 w') :
  Calls Tryz.prog 113 #[.slice p l.length c,.int .u64 m,.func (.func g) #[] #[]] w fun e w'=>e=.returned (.bool (risesN f m l))∧Chg (fun _ _=>False) w w':=by
 obtain ⟨n,hn⟩:∃ n,n=l.length:=⟨_,rfl⟩
 obtain ⟨q,hq⟩:∃ q,q=risesN f m l:=⟨_,rfl⟩
 have hm:=maxLen_le
 have hl:n≤maxLen:=by rw [hn];exact hs.len
 rw [←hn,←hq]
 refine X.begin (rg:=[]) (N:=[]) (ss:=[.slv p n c,.int .u64 (.v m),.fn g []]) Tryz.func113 rfl B113_ok rfl rfl Sat.std0 ?_
 obtain ⟨im,hime⟩:∃ im,im=elsewhere [] [] w:=⟨_,rfl⟩
 show X (mkE Tryz.prog Tryz.f113 _ w (InR [] []) (elsewhere [] [] w) (fun _ _=>False) (fun _=>True) [] B113) _ _
 rw [←hime]
 refine X.go T113_ok 400 _ rfl Tryz.results113 ?_
 conv=>arg 2;cbv
 refine X.loop1 (fun i:{i:Nat × Int // i.1≤n∧q=risesN f i.2 (l.drop i.1)}=>⟨[(1,.val (.int .u64 (.v i.1.2))),(2,.val (.fn g [])),(10,.val (.slv p n c)),(11,.val (.int .i64 (.nat n))),(12,.val (.int .i64 (.nat i.1.1)))],[]⟩) (fun i=>n-i.1.1) (fun N a w' hN hf hS=>⟨⟨(0,m),Nat.zero_le _,by simpa using hq⟩,?_⟩) (fun i q' hq'=>?_)
 ·exact At.again hf hS (by repeat first | exact trivial | refine ⟨⟨_,rfl,.inl ⟨rfl,rfl⟩⟩,?_⟩ | refine ⟨⟨_,rfl,.inr ⟨_,rfl,rfl⟩⟩,?_⟩ | refine ⟨⟨_,rfl,.inr ⟨_,rfl,by simp (disch:=omega) [SV.den,SI.den,wrapU,wrapD]<;>omega⟩⟩,?_⟩) trivial
 obtain ⟨⟨i,m1⟩,hi,htk⟩:=i
 simp only at hi htk
 show X _ _ ⟨[(1,.val (.int .u64 (.v m1))),(2,.val (.fn g [])),(10,.val (.slv p n c)),(11,.val (.int .i64 (.nat n))),(12,.val (.int .i64 (.nat i)))],[]⟩
 refine X.go T113_ok 400 _ rfl Tryz.results113 ?_
 conv=>arg 2;cbv
 refine X.cond rfl (fun hlt=>?_) (fun hge=>?_)
 ·simp only [SB.T,SI.den] at hlt
  have hlt:i<n:=by omega
  obtain ⟨x1,hx1⟩:∃ x,l[i]?=some x:=⟨_,List.getElem?_eq_getElem (by omega)⟩
  obtain ⟨b1,y1,v1,hp1,hr1,hm1⟩:=hs.his hx1
  rw [←hime] at hm1
  rw [drop_at hx1] at htk
  obtain ⟨h,hh⟩:∃ h,h=f x1:=⟨_,rfl⟩
  have hc:=fun (w1:World) (hi1:∀ k o v,im k o=some v→w1.cell? ⟨k,o,none⟩=some v)=>hp i x1 _ w1 hx1 (hr1.later hime hi1)
  rw [←hh] at hc
  simp only [risesN,←hh] at htk
  obtain ⟨m2,hm2⟩:∃ z,z=IntKind.u64.wrap (h+1):=⟨_,rfl⟩
  rw [←hm2] at htk
  rw [CellP.open hr1] at hm1 hc
  refine X.see b1 (y1+i*4) [.int .u64 (.v x1.n),.int .u8 (.v x1.target),.int .i64 (.v x1.action),.int .i64 (.v x1.arg)] (see_of hm1 rfl) (by simp) (fun N1 hN1 hNl1=>?_)
  have hg1:(N1++[(⟨b1,y1+i*4,0⟩:Num)])[0]?=some ⟨b1,y1+i*4,0⟩:=num_last hNl1
  refine X.goX ([(14,.own 0 0),(18,.int .u64 (.v h))]) ([]) T113_ok 400 _ rfl Tryz.results113 (fun pr pe fin hpr hpe hfin=>?_)
  conv=>cbv
  refine ⟨hpr _ (ValOk.row rfl rfl (fun _=>rfl) Tryz.underlying31 Tryz.sizeOf148 hlt hp1 hg1 rfl rfl),hpr _ (.of hg [.agg #[.int .u64 x1.n,.int .u8 x1.target,.int .i64 x1.action,.int .i64 x1.arg]] (.int .u64 h) (fun _=>rfl) (fun _=>rfl) fun _ w1 hi1=>hc w1 hi1),hfin _ _ ?_⟩
  refine X.cond rfl (fun hT=>?_) (fun hF=>?_)
  ·simp only [SB.T,SI.den] at hT
   rw [decide_eq_true hT] at htk
   refine X.go T113_ok 400 _ rfl Tryz.results113 ?_
   conv=>arg 2;cbv
   refine X.done T113_ok rfl (fun N w' v hN hS hv=>⟨fin_bool hv ?_,hS.chg.mono fun k o _ h=>inR_nil h⟩)
   rw [htk]
   rfl
  ·simp only [SB.F,SI.den] at hF
   rw [decide_eq_false (by omega)] at htk
   refine X.go T113_ok 400 _ rfl Tryz.results113 ?_
   conv=>arg 2;cbv
   refine X.reval 1 (.int .u64 (.v m2)) rfl (fun N _ v hv=>by rw [←hv,hm2];rfl) ?_
   refine X.back (fun N a w' hN hf hS=>hq' ⟨(i+1,m2),by omega,htk⟩ a w' (by simp only;omega) ?_)
   show At _ ⟨[(1,.val (.int .u64 (.v m2))),(2,.val (.fn g [])),(10,.val (.slv p n c)),(11,.val (.int .i64 (.nat n))),(12,.val (.int .i64 (.nat (i+1))))],[]⟩ a w'
   exact At.again hf hS (by repeat first | exact trivial | refine ⟨⟨_,rfl,.inl ⟨rfl,rfl⟩⟩,?_⟩ | refine ⟨⟨_,rfl,.inr ⟨_,rfl,rfl⟩⟩,?_⟩ | refine ⟨⟨_,rfl,.inr ⟨_,rfl,by simp (disch:=omega) [SV.den,SI.den,wrapU,wrapD]<;>omega⟩⟩,?_⟩) trivial
 simp only [SB.F,SI.den] at hge
 refine X.go T113_ok 400 _ rfl Tryz.results113 ?_
 conv=>arg 2;cbv
 refine X.done T113_ok rfl (fun N w' v hN hS hv=>⟨fin_bool hv ?_,hS.chg.mono fun k o _ h=>inR_nil h⟩)
 rw [htk,List.drop_of_length_le (by omega)]
 rfl
def inE (z e:Int):Prop:=0≤z∧z<e
def RepP.pmay (x:RepP):Prop:=0≤x.err∧x.err≤99∧inE x.state 32∧x.vars.length≤8
noncomputable def doneBad (x:DoneP):Bool:=B (8<x.client∨x.seq=0∨¬x.reply.pmay)
noncomputable def cellBad (last:Int) (x:CellP):Bool:=B (last<x.n∨16≤x.target∨¬inE x.action 32)
noncomputable def markBad (x:MarkP):Bool:=B (16≤x.source∨x.inc=0∨x.cell=0)
theorem in_ok (z e:Int) (w:World):Calls Tryz.prog 82 #[.int .i64 z,.int .i64 e] w fun r w'=>r=.returned (.bool (B (inE z e)))∧Chg (fun _ _=>False) w w':=by
 obtain ⟨q,hq⟩:∃ q,q=B (inE z e):=⟨_,rfl⟩
 rw [←hq]
 refine X.begin (rg:=[]) (N:=[]) (ss:=[.int .i64 (.v z),.int .i64 (.v e)]) Tryz.func82 rfl B82_ok rfl rfl Sat.std0 ?_
 refine X.go T82_ok 400 _ rfl Tryz.results82 ?_
 conv=>arg 2;cbv
 refine X.done T82_ok rfl (fun N w' v hN hS hv=>⟨fin_bool hv ?_,hS.chg.mono fun k o _ h=>inR_nil h⟩)
 refine den_of ?_
 subst hq
 simp only [SB.T,SI.den,B_iff,inE]
theorem preply_ok (x:RepP) (va:List Value) (w:World) (ha:RepL (wm w) x.toD va):Calls Tryz.prog 108 #[.agg va.toArray] w fun e w'=>e=.returned (.bool (B x.pmay))∧Chg (fun _ _=>False) w w':=by
 obtain ⟨pa,ca,rfl,sa⟩:=RepP.open ha
 clear ha sa
 obtain ⟨q,hq⟩:∃ q,q=B x.pmay:=⟨_,rfl⟩
 rw [←hq]
 obtain ⟨e1,i1,s1,l1⟩:=x
 obtain ⟨n1,hn1⟩:∃ n,n=l1.length:=⟨_,rfl⟩
 obtain ⟨h,hh⟩:∃ h,h=B (inE s1 32):=⟨_,rfl⟩
 simp only [←hn1]
 refine X.begin (rg:=[]) (N:=[]) (ss:=[.agg [.int .i64 (.v e1),.int .u64 (.v i1),.int .i64 (.v s1),.slv pa n1 ca]]) Tryz.func108 rfl B108_ok rfl rfl Sat.std0 ?_
 refine X.goX ([(14,.bool (.v h))]) ([]) T108_ok 400 _ rfl Tryz.results108 (fun pr pe fin hpr hpe hfin=>?_)
 conv=>cbv
 refine ⟨hpr _ (.of Tryz.call82 [.int .i64 s1,.int .i64 32] (.bool h) (fun _=>rfl) (fun _=>rfl) fun _ w1 _=>hh ▸ in_ok s1 32 w1),hfin _ _ ?_⟩
 refine X.done T108_ok rfl (fun N w' v hN hS hv=>⟨fin_bool hv ?_,hS.chg.mono fun k o _ h=>inR_nil h⟩)
 refine den_of ?_
 subst hq hh
 have h8:((n1:Int)≤8)↔n1≤8:=by omega
 simp only [SB.T,SI.den,B_iff,RepP.pmay,←hn1,h8,and_assoc]
theorem dones1_ok (x:DoneP) (va:List Value) (w:World) (ha:RepL (wm w) x.toD va):Calls Tryz.prog 107 #[.agg va.toArray] w fun e w'=>e=.returned (.bool (doneBad x))∧Chg (fun _ _=>False) w w':=by
 obtain ⟨q,hq⟩:∃ q,q=doneBad x:=⟨_,rfl⟩
 rw [←hq]
 obtain ⟨k1,j1,r1⟩:=x
 obtain ⟨_,_,rfl,ha0,ha⟩:=RepL.cons ha
 obtain ⟨_,_,rfl,ha1,sa⟩:=RepL.cons ha
 cases RepC.int' ha0;cases RepC.int' ha1
 clear ha ha0 ha1
 obtain ⟨pa,ca,rfl,_⟩:=RepP.open sa
 obtain ⟨n1,hn1⟩:∃ n,n=r1.vars.length:=⟨_,rfl⟩
 obtain ⟨h,hh⟩:∃ h,h=B r1.pmay:=⟨_,rfl⟩
 rw [←hn1] at sa ⊢
 have hc:=fun (w1:World) hi1=>preply_ok r1 _ w1 (sa.later (im:=elsewhere [] [] w) rfl hi1)
 rw [←hh] at hc
 clear sa
 obtain ⟨e1,i1,s1,l1⟩:=r1
 refine X.begin (rg:=[]) (N:=[]) (ss:=[.agg [.int .u8 (.v k1),.int .u64 (.v j1),.int .i64 (.v e1),.int .u64 (.v i1),.int .i64 (.v s1),.slv pa n1 ca]]) Tryz.func107 rfl B107_ok rfl rfl Sat.std0 ?_
 obtain ⟨im,hime⟩:∃ im,im=elsewhere [] [] w:=⟨_,rfl⟩
 show X (mkE Tryz.prog Tryz.f107 _ w (InR [] []) (elsewhere [] [] w) (fun _ _=>False) (fun _=>True) [] B107) _ _
 rw [←hime] at hc ⊢
 refine X.goX ([(14,.bool (.v h))]) ([]) T107_ok 400 _ rfl Tryz.results107 (fun pr pe fin hpr hpe hfin=>?_)
 conv=>cbv
 refine ⟨hpr _ (.of Tryz.call108 [.agg _] (.bool h) (fun _=>rfl) (fun _=>rfl) fun _ w1 hi1=>hc w1 hi1),hfin _ _ ?_⟩
 refine X.done T107_ok rfl (fun N w' v hN hS hv=>⟨fin_bool hv ?_,hS.chg.mono fun k o _ h=>inR_nil h⟩)
 refine den_of ?_
 subst hq
 simp only [SB.T,SB.F,SI.den,doneBad,B_iff]
 by_cases hr:(⟨e1,i1,s1,l1⟩:RepP).pmay
 ·rw [B_pos hr] at hh
  subst hh
  simp [hr,or_assoc]
 ·rw [B_neg hr] at hh
  subst hh
  simp [hr,or_assoc]
theorem dones2_ok (x:DoneP) (va:List Value) (w:World) (ha:RepL (wm w) x.toD va):Calls Tryz.prog 110 #[.agg va.toArray] w fun e w'=>e=.returned (.int .u64 (IntKind.u64.wrap x.client))∧Chg (fun _ _=>False) w w':=by
 obtain ⟨pa,ca,rfl⟩:=DoneP.cells ha
 obtain ⟨n1,hn1⟩:∃ n,n=x.reply.vars.length:=⟨_,rfl⟩
 rw [←hn1]
 refine X.begin (rg:=[]) (N:=[]) (ss:=[.agg [.int .u8 (.v x.client),.int .u64 (.v x.seq),.int .i64 (.v x.reply.err),.int .u64 (.v x.reply.inc),.int .i64 (.v x.reply.state),.slv pa n1 ca]]) Tryz.func110 rfl B110_ok rfl rfl Sat.std0 ?_
 refine X.go T110_ok 400 _ rfl Tryz.results110 ?_
 conv=>arg 2;cbv
 refine X.done T110_ok rfl (fun N w' v hN hS hv=>⟨?_,hS.chg.none⟩)
 rw [←(Option.some.inj hv:_=v)]
 rfl
theorem cells1_ok (last:Int) (cb co:Nat) (x:CellP) (va:List Value) (w:World) (ha:RepL (wm w) x.toD va) (hcv:w.cell? ⟨cb,co,none⟩=some (.int .u64 last)):Calls Tryz.prog 112 #[.agg va.toArray,.pointer (some ⟨cb,co,none⟩)] w fun e w'=>e=.returned (.bool (cellBad last x))∧Chg (fun _ _=>False) w w':=by
 rw [CellP.open ha]
 clear ha
 obtain ⟨q,hq⟩:∃ q,q=cellBad last x:=⟨_,rfl⟩
 rw [←hq]
 obtain ⟨x1,x2,x3,x4⟩:=x
 obtain ⟨h,hh⟩:∃ h,h=B (inE x3 32):=⟨_,rfl⟩
 refine X.begin (rg:=[]) (N:=[]) (ss:=[.agg [.int .u64 (.v x1),.int .u8 (.v x2),.int .i64 (.v x3),.int .i64 (.v x4)],.ext cb co 0]) Tryz.func112 rfl B112_ok rfl rfl Sat.std0 ?_
 obtain ⟨im,hime⟩:∃ im,im=elsewhere [] [] w:=⟨_,rfl⟩
 show X (mkE Tryz.prog Tryz.f112 _ w (InR [] []) (elsewhere [] [] w) (fun _ _=>False) (fun _=>True) [] B112) _ _
 have him:im cb (co+0)=some (.int .u64 last):=by rw [hime];exact his hcv
 rw [←hime]
 refine X.goX ([(6,.int .u64 (.v last)),(16,.bool (.v h))]) ([]) T112_ok 400 _ rfl Tryz.results112 (fun pr pe fin hpr hpe hfin=>?_)
 conv=>cbv
 refine ⟨hpr _ (ValOk.im1 rfl Tryz.isAgg22 (fun _=>rfl) fun _=>him),hpr _ (.of Tryz.call82 [.int .i64 x3,.int .i64 32] (.bool h) (fun _=>rfl) (fun _=>rfl) fun _ w1 _=>hh ▸ in_ok x3 32 w1),hfin _ _ ?_⟩
 refine X.done T112_ok rfl (fun N w' v hN hS hv=>⟨fin_bool hv ?_,hS.chg.mono fun k o _ h=>inR_nil h⟩)
 refine den_of ?_
 subst hq
 simp only [SB.T,SB.F,SI.den,cellBad,B_iff]
 by_cases hr:inE x3 32
 ·rw [B_pos hr] at hh
  subst hh
  simp [hr,or_assoc]
 ·rw [B_neg hr] at hh
  subst hh
  simp [hr,or_assoc]
theorem cells2_ok (x:CellP) (va:List Value) (w:World) (ha:RepL (wm w) x.toD va):Calls Tryz.prog 114 #[.agg va.toArray] w fun e w'=>e=.returned (.int .u64 x.n)∧Chg (fun _ _=>False) w w':=by
 rw [CellP.open ha]
 refine X.begin (rg:=[]) (N:=[]) (ss:=[.agg [.int .u64 (.v x.n),.int .u8 (.v x.target),.int .i64 (.v x.action),.int .i64 (.v x.arg)]]) Tryz.func114 rfl B114_ok rfl rfl Sat.std0 ?_
 refine X.go T114_ok 400 _ rfl Tryz.results114 ?_
 conv=>arg 2;cbv
 refine X.done T114_ok rfl (fun N w' v hN hS hv=>⟨?_,hS.chg.none⟩)
 rw [←(Option.some.inj hv:_=v)]
 rfl
theorem marks1_ok (x:MarkP) (va:List Value) (w:World) (ha:RepL (wm w) x.toD va):Calls Tryz.prog 116 #[.agg va.toArray] w fun e w'=>e=.returned (.bool (markBad x))∧Chg (fun _ _=>False) w w':=by
 rw [MarkP.open ha]
 obtain ⟨q,hq⟩:∃ q,q=markBad x:=⟨_,rfl⟩
 rw [←hq]
 obtain ⟨s1,i1,c1⟩:=x
 refine X.begin (rg:=[]) (N:=[]) (ss:=[.agg [.int .u8 (.v s1),.int .u64 (.v i1),.int .u64 (.v c1)]]) Tryz.func116 rfl B116_ok rfl rfl Sat.std0 ?_
 refine X.go T116_ok 400 _ rfl Tryz.results116 ?_
 conv=>arg 2;cbv
 refine X.done T116_ok rfl (fun N w' v hN hS hv=>⟨fin_bool hv ?_,hS.chg.mono fun k o _ h=>inR_nil h⟩)
 refine den_of ?_
 subst hq
 simp only [SB.T,SI.den,markBad,B_iff,or_assoc]
theorem marks2_ok (x:MarkP) (va:List Value) (w:World) (ha:RepL (wm w) x.toD va):Calls Tryz.prog 118 #[.agg va.toArray] w fun e w'=>e=.returned (.int .u64 (IntKind.u64.wrap x.source))∧Chg (fun _ _=>False) w w':=by
 rw [MarkP.open ha]
 refine X.begin (rg:=[]) (N:=[]) (ss:=[.agg [.int .u8 (.v x.source),.int .u64 (.v x.inc),.int .u64 (.v x.cell)]]) Tryz.func118 rfl B118_ok rfl rfl Sat.std0 ?_
 refine X.go T118_ok 400 _ rfl Tryz.results118 ?_
 conv=>arg 2;cbv
 refine X.done T118_ok rfl (fun N w' v hN hS hv=>⟨?_,hS.chg.none⟩)
 rw [←(Option.some.inj hv:_=v)]
 rfl
noncomputable def donesM (l:List DoneP):Bool:=!l.any doneBad&&decide (l.length≤8)&&risesN (fun x=>IntKind.u64.wrap x.client) 1 l
noncomputable def cellsM (l:List CellP) (last:Int):Bool:=!l.any (cellBad last)&&decide (l.length≤8)&&risesN (fun x=>x.n) 1 l
noncomputable def marksM (l:List MarkP):Bool:=!l.any markBad&&risesN (fun x=>IntKind.u64.wrap x.source) 0 l
theorem donesM_ok (l:List DoneP) (p:Option Addr) (c:Nat) (w:World) (hs:SlR (wm w) p c 6 (l.map DoneP.toD)):Calls Tryz.prog 83 #[.slice p l.length c] w fun e w'=>e=.returned (.bool (donesM l))∧Chg (fun _ _=>False) w w':=by
 obtain ⟨q,hq⟩:∃ q,q=donesM l:=⟨_,rfl⟩
 obtain ⟨n,hn⟩:∃ n,n=l.length:=⟨_,rfl⟩
 obtain ⟨a,ha⟩:∃ a,a=l.any doneBad:=⟨_,rfl⟩
 obtain ⟨b,hb⟩:∃ a,a=risesN (fun x:DoneP=>IntKind.u64.wrap x.client) 1 l:=⟨_,rfl⟩
 have c1:=fun (w1:World) (hi1:∀ k o v,elsewhere [] [] w k o=some v→w1.cell? ⟨k,o,none⟩=some v)=>containsDone_ok l doneBad 107 p c w1 (hs.later rfl hi1) Tryz.call107 fun i x vs w2 _ hr=>dones1_ok x vs w2 hr
 have c2:=fun (w1:World) (hi1:∀ k o v,elsewhere [] [] w k o=some v→w1.cell? ⟨k,o,none⟩=some v)=>risesDone_ok l (fun x=>IntKind.u64.wrap x.client) 110 1 p c w1 (hs.later rfl hi1) Tryz.call110 fun i x vs w2 _ hr=>dones2_ok x vs w2 hr
 rw [←hn,←ha] at c1
 rw [←hn,←hb] at c2
 rw [←hq,←hn]
 refine X.begin (rg:=[]) (N:=[]) (ss:=[.slv p n c]) Tryz.func83 rfl B83_ok rfl rfl Sat.std0 ?_
 refine X.goX ([(5,.bool (.v a)),(15,.bool (.v b))]) ([]) T83_ok 400 _ rfl Tryz.results83 (fun pr pe fin hpr hpe hfin=>?_)
 conv=>cbv
 refine ⟨hpr _ (.of Tryz.call106 [.slice p n c,.func (.func 107) #[] #[]] (.bool a) (fun _=>rfl) (fun _=>rfl) fun _ w1 hi1=>c1 w1 hi1),hpr _ (.of Tryz.call109 [.slice p n c,.int .u64 1,.func (.func 110) #[] #[]] (.bool b) (fun _=>rfl) (fun _=>rfl) fun _ w1 hi1=>c2 w1 hi1),hfin _ _ ?_⟩
 refine X.done T83_ok rfl (fun N w' v hN hS hv=>⟨fin_bool hv ?_,hS.chg.mono fun k o _ h=>inR_nil h⟩)
 refine den_of ?_
 have h8:((n:Int)≤8)↔n≤8:=by omega
 rw [hq,donesM,←ha,←hb,←hn]
 simp [SB.T,SB.F,SI.den,h8]
theorem marksM_ok (l:List MarkP) (p:Option Addr) (c:Nat) (w:World) (hs:SlR (wm w) p c 3 (l.map MarkP.toD)):Calls Tryz.prog 85 #[.slice p l.length c] w fun e w'=>e=.returned (.bool (marksM l))∧Chg (fun _ _=>False) w w':=by
 obtain ⟨q,hq⟩:∃ q,q=marksM l:=⟨_,rfl⟩
 obtain ⟨n,hn⟩:∃ n,n=l.length:=⟨_,rfl⟩
 obtain ⟨a,ha⟩:∃ a,a=l.any markBad:=⟨_,rfl⟩
 obtain ⟨b,hb⟩:∃ a,a=risesN (fun x:MarkP=>IntKind.u64.wrap x.source) 0 l:=⟨_,rfl⟩
 have c1:=fun (w1:World) (hi1:∀ k o v,elsewhere [] [] w k o=some v→w1.cell? ⟨k,o,none⟩=some v)=>containsMark_ok l markBad 116 p c w1 (hs.later rfl hi1) Tryz.call116 fun i x vs w2 _ hr=>marks1_ok x vs w2 hr
 have c2:=fun (w1:World) (hi1:∀ k o v,elsewhere [] [] w k o=some v→w1.cell? ⟨k,o,none⟩=some v)=>risesMark_ok l (fun x=>IntKind.u64.wrap x.source) 118 0 p c w1 (hs.later rfl hi1) Tryz.call118 fun i x vs w2 _ hr=>marks2_ok x vs w2 hr
 rw [←hn,←ha] at c1
 rw [←hn,←hb] at c2
 rw [←hq,←hn]
 refine X.begin (rg:=[]) (N:=[]) (ss:=[.slv p n c]) Tryz.func85 rfl B85_ok rfl rfl Sat.std0 ?_
 refine X.goX ([(5,.bool (.v a)),(10,.bool (.v b))]) ([]) T85_ok 400 _ rfl Tryz.results85 (fun pr pe fin hpr hpe hfin=>?_)
 conv=>cbv
 refine ⟨hpr _ (.of Tryz.call115 [.slice p n c,.func (.func 116) #[] #[]] (.bool a) (fun _=>rfl) (fun _=>rfl) fun _ w1 hi1=>c1 w1 hi1),hpr _ (.of Tryz.call117 [.slice p n c,.int .u64 0,.func (.func 118) #[] #[]] (.bool b) (fun _=>rfl) (fun _=>rfl) fun _ w1 hi1=>c2 w1 hi1),hfin _ _ ?_⟩
 refine X.done T85_ok rfl (fun N w' v hN hS hv=>⟨fin_bool hv ?_,hS.chg.mono fun k o _ h=>inR_nil h⟩)
 refine den_of ?_
 rw [hq,marksM,←ha,←hb]
 simp [SB.T,SB.F,SI.den]
theorem cellsM_ok (l:List CellP) (last:Int) (p:Option Addr) (c:Nat) (w:World) (hs:SlR (wm w) p c 4 (l.map CellP.toD)):Calls Tryz.prog 84 #[.slice p l.length c,.int .u64 last] w fun e w'=>e=.returned (.bool (cellsM l last))∧Chg (fun _ _=>False) w w':=by
 obtain ⟨q,hq⟩:∃ q,q=cellsM l last:=⟨_,rfl⟩
 obtain ⟨n,hn⟩:∃ n,n=l.length:=⟨_,rfl⟩
 obtain ⟨a,ha⟩:∃ a,a=l.any (cellBad last):=⟨_,rfl⟩
 obtain ⟨b,hb⟩:∃ a,a=risesN (fun x:CellP=>x.n) 1 l:=⟨_,rfl⟩
 have c1:=fun (cb co:Nat) (w1:World) (hi1:∀ k o v,elsewhere [] [] w k o=some v→w1.cell? ⟨k,o,none⟩=some v) (hcv:w1.cell? ⟨cb,co,none⟩=some (.int .u64 last))=>containsCell_ok l (cellBad last) 112 cb co (.int .u64 last) p c w1 (hs.later rfl hi1) hcv Tryz.call112 fun i x vs w2 _ hr hc=>cells1_ok last cb co x vs w2 hr hc
 have c2:=fun (w1:World) (hi1:∀ k o v,elsewhere [] [] w k o=some v→w1.cell? ⟨k,o,none⟩=some v)=>risesCell_ok l (fun x=>x.n) 114 1 p c w1 (hs.later rfl hi1) Tryz.call114 fun i x vs w2 _ hr=>cells2_ok x vs w2 hr
 rw [←hn,←ha] at c1
 rw [←hn,←hb] at c2
 rw [←hq,←hn]
 refine X.begin (rg:=[]) (N:=[]) (ss:=[.slv p n c,.int .u64 (.v last)]) Tryz.func84 rfl B84_ok rfl rfl Sat.std0 ?_
 refine X.goX ([(8,.bool (.v a)),(18,.bool (.v b))]) ([]) T84_ok 400 _ rfl Tryz.results84 (fun pr pe fin hpr hpe hfin=>?_)
 conv=>cbv
 refine ⟨hpr _ fun _=>⟨Tryz.call111,fun N w1 args hN hS hargs=>?_⟩,hpr _ (.of Tryz.call113 [.slice p n c,.int .u64 1,.func (.func 114) #[] #[]] (.bool b) (fun _=>rfl) (fun _=>rfl) fun _ w1 hi1=>c2 w1 hi1),hfin _ _ ?_⟩
 ·obtain ⟨r,hr⟩:∃ p,N[0]?=some p:=⟨_,List.getElem?_eq_getElem (by rw [hS.len];show 0<1;omega)⟩
  have hargs:args=[.slice p n c,.func (.func 112) #[] #[.pointer (some ⟨r.b,r.o+0,none⟩)]]:=by
   simp only [SV.denL,SV.den,hr,Option.some.injEq] at hargs
   exact hargs.symm
  rw [hargs]
  obtain ⟨v,h1,h2⟩:=hS.cell 0 _ _ rfl hr 0 (.int .u64 (.v last)) rfl
  simp only [SV.den,SI.den,Option.some.injEq] at h1
  exact (c1 r.b (r.o+0) w1 hS.imm (by rw [h2,←h1])).mono fun e w' ⟨he,hc⟩=>⟨_,he,rfl,hc⟩
 refine X.done T84_ok rfl (fun N w' v hN hS hv=>⟨fin_bool hv ?_,hS.chg.mono fun k o _ h=>inR_nil h⟩)
 refine den_of ?_
 have h8:((n:Int)≤8)↔n≤8:=by omega
 rw [hq,cellsM,←ha,←hb,←hn]
 simp [SB.T,SB.F,SI.den,h8]
def RegP.pempty (x:RegP):Prop:=x.inc=0∧x.state=0∧x.last=0∧IntKind.i64.wrap (IntKind.i64.wrap (IntKind.i64.wrap ((x.vars.length:Int)+(x.done.length:Int))+(x.out.length:Int))+(x.marks.length:Int))=0
def RegP.pmay (x:RegP):Prop:=(x.kind=0→x.pempty)∧(x.kind≠0→(x.kind=2→x.state=0∧x.vars.length=0∧x.out.length=0)∧(x.kind=1∨x.kind=2)∧0<x.inc∧inE x.state 32∧x.vars.length≤8∧donesM x.done=true∧cellsM x.out x.last=true∧marksM x.marks=true)
theorem pempty_ok (a:RegP) (va:List Value) (w:World) (ha:RepL (wm w) a.toD va):Calls Tryz.prog 81 #[.agg va.toArray] w fun e w'=>e=.returned (.bool (B a.pempty))∧Chg (fun _ _=>False) w w':=by
 obtain ⟨p1,c1,p2,c2,p3,c3,p4,c4,rfl,_⟩:=RegP.open ha
 clear ha
 obtain ⟨k1,i1,s1,v1,o1,u1,l1,m1⟩:=a
 simp only
 obtain ⟨q,hq⟩:∃ q:Bool,q=B (RegP.pempty ⟨k1,i1,s1,v1,o1,u1,l1,m1⟩):=⟨_,rfl⟩
 rw [←hq]
 obtain ⟨n1,hn1⟩:∃ n,n=v1.length:=⟨_,rfl⟩
 obtain ⟨n2,hn2⟩:∃ n,n=o1.length:=⟨_,rfl⟩
 obtain ⟨n3,hn3⟩:∃ n,n=u1.length:=⟨_,rfl⟩
 obtain ⟨n4,hn4⟩:∃ n,n=m1.length:=⟨_,rfl⟩
 rw [←hn1,←hn2,←hn3,←hn4]
 refine X.begin (rg:=[]) (N:=[]) (ss:=[.agg [.int .u8 (.v k1),.int .u64 (.v i1),.int .i64 (.v s1),.slv p1 n1 c1,.slv p2 n2 c2,.slv p3 n3 c3,.int .u64 (.v l1),.slv p4 n4 c4]]) Tryz.func81 rfl B81_ok rfl rfl Sat.std0 ?_
 refine X.go T81_ok 400 _ rfl Tryz.results81 ?_
 conv=>arg 2;cbv
 refine X.done T81_ok rfl (fun N w' v hN hS hv=>⟨fin_bool hv ?_,hS.chg.mono fun k o _ h=>inR_nil h⟩)
 refine den_of ?_
 subst hq
 simp only [SB.T,SI.den,B_iff,RegP.pempty,←hn1,←hn2,←hn3,←hn4,and_assoc]
theorem pmay_ok (a:RegP) (va:List Value) (w:World) (ha:RepL (wm w) a.toD va):Calls Tryz.prog 49 #[.agg va.toArray] w fun e w'=>e=.returned (.bool (B a.pmay))∧Chg (fun _ _=>False) w w':=by
 have e0:=fun (w1:World) hi1=>pempty_ok a va w1 (ha.later (im:=elsewhere [] [] w) rfl hi1)
 obtain ⟨p1,c1,p2,c2,p3,c3,p4,c4,rfl,_,sa2,sa3,sa4⟩:=RegP.open ha
 clear ha
 have e2:=fun (w1:World) hi1=>donesM_ok a.done p2 c2 w1 (sa2.later (im:=elsewhere [] [] w) rfl hi1)
 have e3:=fun (w1:World) hi1=>cellsM_ok a.out a.last p3 c3 w1 (sa3.later (im:=elsewhere [] [] w) rfl hi1)
 have e4:=fun (w1:World) hi1=>marksM_ok a.marks p4 c4 w1 (sa4.later (im:=elsewhere [] [] w) rfl hi1)
 clear sa2 sa3 sa4
 obtain ⟨h0,hh0⟩:∃ h,h=B a.pempty:=⟨_,rfl⟩
 obtain ⟨h2,hh2⟩:∃ h,h=donesM a.done:=⟨_,rfl⟩
 obtain ⟨h3,hh3⟩:∃ h,h=cellsM a.out a.last:=⟨_,rfl⟩
 obtain ⟨h4,hh4⟩:∃ h,h=marksM a.marks:=⟨_,rfl⟩
 rw [←hh0] at e0
 rw [←hh2] at e2
 rw [←hh3] at e3
 rw [←hh4] at e4
 obtain ⟨k1,i1,s1,v1,o1,u1,l1,m1⟩:=a
 simp only at e0 e2 e3 e4 hh2 hh3 hh4 ⊢
 obtain ⟨q,hq⟩:∃ q:Bool,q=B (RegP.pmay ⟨k1,i1,s1,v1,o1,u1,l1,m1⟩):=⟨_,rfl⟩
 obtain ⟨hi,hhi⟩:∃ h,h=B (inE s1 32):=⟨_,rfl⟩
 rw [←hq]
 obtain ⟨n1,hn1⟩:∃ n,n=v1.length:=⟨_,rfl⟩
 obtain ⟨n2,hn2⟩:∃ n,n=o1.length:=⟨_,rfl⟩
 obtain ⟨n3,hn3⟩:∃ n,n=u1.length:=⟨_,rfl⟩
 obtain ⟨n4,hn4⟩:∃ n,n=m1.length:=⟨_,rfl⟩
 rw [←hn1,←hn2,←hn3,←hn4] at e0 ⊢
 rw [←hn2] at e2
 rw [←hn3] at e3
 rw [←hn4] at e4
 refine X.begin (rg:=[]) (N:=[]) (ss:=[.agg [.int .u8 (.v k1),.int .u64 (.v i1),.int .i64 (.v s1),.slv p1 n1 c1,.slv p2 n2 c2,.slv p3 n3 c3,.int .u64 (.v l1),.slv p4 n4 c4]]) Tryz.func49 rfl B49_ok rfl rfl Sat.std0 ?_
 obtain ⟨im,hime⟩:∃ im,im=elsewhere [] [] w:=⟨_,rfl⟩
 show X (mkE Tryz.prog Tryz.f49 _ w (InR [] []) (elsewhere [] [] w) (fun _ _=>False) (fun _=>True) [] B49) _ _
 rw [←hime] at e0 e2 e3 e4 ⊢
 refine X.go T49_ok 400 _ rfl Tryz.results49 ?_
 conv=>arg 2;cbv
 refine X.cond rfl (fun hc=>?_) (fun hc=>?_)
 ·simp only [SB.T,SB.F,SI.den] at hc
  refine X.goX ([(8,.bool (.v h0))]) ([]) T49_ok 400 _ rfl Tryz.results49 (fun pr pe fin hpr hpe hfin=>?_)
  conv=>cbv
  refine ⟨hpr _ (.of Tryz.call81 [.agg _] (.bool h0) (fun _=>rfl) (fun _=>rfl) fun _ w1 hi1=>e0 w1 hi1),hfin _ _ ?_⟩
  refine X.done T49_ok rfl (fun N w' v hN hS hv=>⟨fin_bool hv ?_,hS.chg.mono fun k o _ h=>inR_nil h⟩)
  refine den_of ?_
  rw [hq,hh0]
  simp only [SB.T,SI.den,B_iff,RegP.pmay]
  exact ⟨fun h=>⟨fun _=>h,fun h=>absurd hc h⟩,fun h=>h.1 hc⟩
 simp only [SB.T,SB.F,SI.den] at hc
 refine X.go T49_ok 400 _ rfl Tryz.results49 ?_
 conv=>arg 2;cbv
 have h8:((n1:Int)≤8)↔n1≤8:=by omega
 refine X.cond rfl (fun hc2=>?_) (fun hc2=>?_)
 ·simp only [SB.T,SB.F,SI.den] at hc2
  refine X.go T49_ok 400 _ rfl Tryz.results49 ?_
  conv=>arg 2;cbv
  refine X.cond rfl (fun hc3=>?_) (fun hc3=>?_)
  ·simp only [SB.T,SB.F,SI.den] at hc3
   refine X.go T49_ok 400 _ rfl Tryz.results49 ?_
   conv=>arg 2;cbv
   refine X.done T49_ok rfl (fun N w' v hN hS hv=>⟨fin_bool hv ?_,hS.chg.mono fun k o _ h=>inR_nil h⟩)
   rw [hq]
   refine (B_neg fun h=>?_).symm
   have:=(h.2 hc).1 hc2
   simp only [←hn1,←hn3] at this
   omega
  simp only [SB.T,SB.F,SI.den] at hc3
  refine X.goX ([(34,.bool (.v hi)),(45,.bool (.v h2)),(52,.bool (.v h3)),(57,.bool (.v h4))]) ([]) T49_ok 400 _ rfl Tryz.results49 (fun pr pe fin hpr hpe hfin=>?_)
  conv=>cbv
  refine ⟨hpr _ (.of Tryz.call82 [.int .i64 s1,.int .i64 32] (.bool hi) (fun _=>rfl) (fun _=>rfl) fun _ w1 _=>hhi ▸ in_ok s1 32 w1),hpr _ (.of Tryz.call83 [.slice p2 n2 c2] (.bool h2) (fun _=>rfl) (fun _=>rfl) fun _ w1 hi1=>e2 w1 hi1),hpr _ (.of Tryz.call84 [.slice p3 n3 c3,.int .u64 l1] (.bool h3) (fun _=>rfl) (fun _=>rfl) fun _ w1 hi1=>e3 w1 hi1),hpr _ (.of Tryz.call85 [.slice p4 n4 c4] (.bool h4) (fun _=>rfl) (fun _=>rfl) fun _ w1 hi1=>e4 w1 hi1),hfin _ _ ?_⟩
  refine X.done T49_ok rfl (fun N w' v hN hS hv=>⟨fin_bool hv ?_,hS.chg.mono fun k o _ h=>inR_nil h⟩)
  refine den_of ?_
  rw [hq]
  simp only [SB.T,SI.den,B_iff,RegP.pmay,←hh2,←hh3,←hh4,←hn1,←hn3,hhi]
  exact ⟨fun h=>⟨fun h0=>absurd h0 hc,fun _=>⟨fun _=>by omega,.inr hc2,h.1.1.1.1.1,h.1.1.1.1.2,h8.1 h.1.1.1.2,h.1.1.2,h.1.2,h.2⟩⟩,fun h=>by
   obtain ⟨_,_,a1,a2,a3,a4,a5,a6⟩:=h.2 hc
   exact ⟨⟨⟨⟨⟨a1,a2⟩,h8.2 a3⟩,a4⟩,a5⟩,a6⟩⟩
 simp only [SB.T,SB.F,SI.den] at hc2
 refine X.go T49_ok 400 _ rfl Tryz.results49 ?_
 conv=>arg 2;cbv
 refine X.cond rfl (fun hc3=>?_) (fun hc3=>?_)
 ·simp only [SB.T,SB.F,SI.den] at hc3
  refine X.goX ([(34,.bool (.v hi)),(45,.bool (.v h2)),(52,.bool (.v h3)),(57,.bool (.v h4))]) ([]) T49_ok 400 _ rfl Tryz.results49 (fun pr pe fin hpr hpe hfin=>?_)
  conv=>cbv
  refine ⟨hpr _ (.of Tryz.call82 [.int .i64 s1,.int .i64 32] (.bool hi) (fun _=>rfl) (fun _=>rfl) fun _ w1 _=>hhi ▸ in_ok s1 32 w1),hpr _ (.of Tryz.call83 [.slice p2 n2 c2] (.bool h2) (fun _=>rfl) (fun _=>rfl) fun _ w1 hi1=>e2 w1 hi1),hpr _ (.of Tryz.call84 [.slice p3 n3 c3,.int .u64 l1] (.bool h3) (fun _=>rfl) (fun _=>rfl) fun _ w1 hi1=>e3 w1 hi1),hpr _ (.of Tryz.call85 [.slice p4 n4 c4] (.bool h4) (fun _=>rfl) (fun _=>rfl) fun _ w1 hi1=>e4 w1 hi1),hfin _ _ ?_⟩
  refine X.done T49_ok rfl (fun N w' v hN hS hv=>⟨fin_bool hv ?_,hS.chg.mono fun k o _ h=>inR_nil h⟩)
  refine den_of ?_
  rw [hq]
  simp only [SB.T,SI.den,B_iff,RegP.pmay,←hh2,←hh3,←hh4,←hn1,←hn3,hhi]
  exact ⟨fun h=>⟨fun h0=>absurd h0 hc,fun _=>⟨fun h2=>absurd h2 hc2,.inl hc3,h.1.1.1.1.1,h.1.1.1.1.2,h8.1 h.1.1.1.2,h.1.1.2,h.1.2,h.2⟩⟩,fun h=>by
   obtain ⟨_,_,a1,a2,a3,a4,a5,a6⟩:=h.2 hc
   exact ⟨⟨⟨⟨⟨a1,a2⟩,h8.2 a3⟩,a4⟩,a5⟩,a6⟩⟩
 simp only [SB.T,SB.F,SI.den] at hc3
 refine X.go T49_ok 400 _ rfl Tryz.results49 ?_
 conv=>arg 2;cbv
 refine X.done T49_ok rfl (fun N w' v hN hS hv=>⟨fin_bool hv ?_,hS.chg.mono fun k o _ h=>inR_nil h⟩)
 rw [hq]
 refine (B_neg fun h=>?_).symm
 rcases (h.2 hc).2.1 with h | h
 ·exact hc3 h
 ·exact hc2 h
end Go.Proofs.YthaffebapmkppaaGreat
namespace Go.Eng
open Go
end Go.Eng
namespace Go.Proofs.YthaffebapmkppaaGreat
open Go Go.Eng
structure SlotC where
 (has:Bool) (pc pn pl ac an al k inc st:Int) (vp:Option Addr) (vn vc:Nat) (dp:Option Addr) (dn dc:Nat) (op:Option Addr) (on oc:Nat) (last:Int) (mp:Option Addr) (mn mc:Nat)
structure ConfC where
 (c:Int) (op:Option Addr) (on oc:Nat) (np:Option Addr) (nn nc:Nat)
structure StateC where
 (slots:Nat→SlotC) (fence life:Int) (cf:ConfC)
structure RecC where
 (kind key:Int) (sl:SlotC) (fence life:Int) (cf:ConfC)
def SlotC.vals (x:SlotC):List Value:=[.bool x.has,.int .u64 x.pc,.int .u8 x.pn,.int .u32 x.pl,.int .u64 x.ac,.int .u8 x.an,.int .u32 x.al,.int .u8 x.k,.int .u64 x.inc,.int .i64 x.st,.slice x.vp x.vn x.vc,.slice x.dp x.dn x.dc,.slice x.op x.on x.oc,.int .u64 x.last,.slice x.mp x.mn x.mc]
def ConfC.vals (x:ConfC):List Value:=[.int .u64 x.c,.slice x.op x.on x.oc,.slice x.np x.nn x.nc]
def cat {α:Type} (f:Nat→List α):Nat→Nat→List α
 | _,0=>[]
 | i,n+1=>f i++cat f (i+1) n
def StateC.vals (s:StateC):List Value:=cat (fun i=>(s.slots i).vals) 0 16++(.int .u64 s.fence::.int .u32 s.life::s.cf.vals)
def RecC.vals (r:RecC):List Value:=.int .u8 r.kind::.int .u8 r.key::(r.sl.vals.tail++(.int .u64 r.fence::.int .u32 r.life::r.cf.vals))
def upd {α:Type} (f:Nat→α) (k:Nat) (x:α):Nat→α:=fun i=>bif Nat.beq i k then x else f i
def SlotC.put (x:SlotC):SlotC:={ x with has:=true }
def RegP.great (r:RegP):Prop:=50<r.vars.length∨50<r.done.length∨50<r.out.length∨50<r.marks.length∨∃ (i:Nat) (d:DoneP),r.done[i]?=some d∧50<d.reply.vars.length
def great (l:List RecP):Prop:=60<l.length∨∃ (i:Nat) (r:RecP),l[i]?=some r∧(r.reg.great∨80<r.conf.old.length∨80<r.conf.new.length)
theorem great06_ok (a:RegP) (va:List Value) (w:World) (ha:RepL (wm w) a.toD va) :
  Calls Tryz.prog 8 #[.agg va.toArray] w fun e w'=>e=.returned (.bool (B a.great))∧Chg (fun _ _=>False) w w':=by
 obtain ⟨p1,c1,p2,c2,p3,c3,p4,c4,rfl,sa1,sa2,sa3,sa4⟩:=RegP.open ha
 clear ha
 obtain ⟨k1,i1,s1,v1,o1,u1,l1,m1⟩:=a
 simp only at sa1 sa2 sa3 sa4 ⊢
 obtain ⟨q,hq⟩:∃ q:Bool,q=B (RegP.great ⟨k1,i1,s1,v1,o1,u1,l1,m1⟩):=⟨_,rfl⟩
 rw [←hq]
 obtain ⟨n1,hn1⟩:∃ n,n=v1.length:=⟨_,rfl⟩
 obtain ⟨n2,hn2⟩:∃ n,n=o1.length:=⟨_,rfl⟩
 obtain ⟨n3,hn3⟩:∃ n,n=u1.length:=⟨_,rfl⟩
 obtain ⟨n4,hn4⟩:∃ n,n=m1.length:=⟨_,rfl⟩
 have hm:=maxLen_le
 have hl2:n2≤maxLen:=by rw [hn2];exact sa2.len
 rw [←hn1,←hn2,←hn3,←hn4]
 refine X.begin (rg:=[]) (N:=[]) (ss:=[.agg [.int .u8 (.v k1),.int .u64 (.v i1),.int .i64 (.v s1),.slv p1 n1 c1,.slv p2 n2 c2,.slv p3 n3 c3,.int .u64 (.v l1),.slv p4 n4 c4]]) Tryz.func8 rfl B8_ok rfl rfl Sat.std0 ?_
 obtain ⟨im,hime⟩:∃ im,im=elsewhere [] [] w:=⟨_,rfl⟩
 show X (mkE Tryz.prog Tryz.f8 _ w (InR [] []) (elsewhere [] [] w) (fun _ _=>False) (fun _=>True) [] B8) _ _
 rw [←hime]
 refine X.go T8_ok 400 _ rfl Tryz.results8 ?_
 conv=>arg 2;cbv
 refine X.cond rfl (fun hc=>?_) (fun hc=>?_)
 ·refine X.go T8_ok 400 _ rfl Tryz.results8 ?_
  conv=>arg 2;cbv
  refine X.done T8_ok rfl (fun N w' v hN hS hv=>⟨fin_bool hv ?_,hS.chg.mono fun k o _ h=>inR_nil h⟩)
  simp only [SB.T,SB.F,SI.den] at hc
  rw [hq]
  refine (B_pos ?_).symm
  simp only [RegP.great,←hn1,←hn2,←hn3,←hn4]
  omega
 simp only [SB.T,SB.F,SI.den] at hc
 refine X.go T8_ok 400 _ rfl Tryz.results8 ?_
 conv=>arg 2;cbv
 refine X.loop1 (fun i:{i:Nat // i≤n2∧∀ (j:Nat) (x:DoneP),j<i→o1[j]?=some x→x.reply.vars.length≤50}=>⟨[(1,.val (.own 0 0)),(28,.val (.int .i64 (.nat n2))),(29,.val (.int .i64 (.nat i.1)))],[⟨true,[.int .u8 (.v k1),.int .u64 (.v i1),.int .i64 (.v s1),.slv p1 n1 c1,.slv p2 n2 c2,.slv p3 n3 c3,.int .u64 (.v l1),.slv p4 n4 c4],none⟩]⟩) (fun i=>n2-i.1) (fun N a w' hN hf hS=>⟨⟨0,Nat.zero_le _,fun j x hj=>by omega⟩,?_⟩) (fun i q' hq'=>?_)
 ·exact At.again hf hS (by repeat first | exact trivial | refine ⟨⟨_,rfl,.inl ⟨rfl,rfl⟩⟩,?_⟩ | refine ⟨⟨_,rfl,.inr ⟨_,rfl,rfl⟩⟩,?_⟩ | refine ⟨⟨_,rfl,.inr ⟨_,rfl,by simp (disch:=omega) [SV.den,SI.den,wrapU,wrapD]<;>omega⟩⟩,?_⟩) (by repeat first | exact trivial | refine ⟨fun h=>h,SubC.refl rfl,rfl,?_⟩)
 obtain ⟨i,hi,hno⟩:=i
 refine X.go T8_ok 400 _ rfl Tryz.results8 ?_
 conv=>arg 2;cbv
 refine X.cond rfl (fun hlt=>?_) (fun hge=>?_)
 ·simp only [SB.T,SI.den] at hlt
  have hlt:i<n2:=by omega
  obtain ⟨x1,hx1⟩:∃ x,o1[i]?=some x:=⟨_,List.getElem?_eq_getElem (by omega)⟩
  obtain ⟨b1,y1,w1,hp1,hr1,hm1⟩:=sa2.his hx1
  rw [←hime] at hm1
  obtain ⟨pa,ca,rfl⟩:=DoneP.cells hr1
  obtain ⟨na,hna⟩:∃ n,n=x1.reply.vars.length:=⟨_,rfl⟩
  rw [←hna] at hm1
  refine X.see b1 (y1+i*6) [.int .u8 (.v x1.client),.int .u64 (.v x1.seq),.int .i64 (.v x1.reply.err),.int .u64 (.v x1.reply.inc),.int .i64 (.v x1.reply.state),.slv pa na ca] (see_of hm1 rfl) (by simp) (fun N1 hN1 hNl1=>?_)
  have hg1:(N1++[(⟨b1,y1+i*6,0⟩:Num)])[1]?=some ⟨b1,y1+i*6,0⟩:=num_last hNl1
  refine X.goP ([(35,.own 1 0)]) T8_ok 400 _ rfl Tryz.results8 (fun pr fin hpr hfin=>?_)
  conv=>cbv
  refine ⟨hpr _ (ValOk.row rfl rfl (fun _=>rfl) Tryz.underlying30 Tryz.sizeOf94 hlt hp1 hg1 rfl rfl),hfin _ _ ?_⟩
  refine X.cond rfl (fun hbad=>?_) (fun hok=>?_)
  ·simp only [SB.T,SB.F,SI.den] at hbad
   refine X.go T8_ok 400 _ rfl Tryz.results8 ?_
   conv=>arg 2;cbv
   refine X.done T8_ok rfl (fun N w' v hN hS hv=>⟨fin_bool hv ?_,hS.chg.mono fun k o _ h=>inR_nil h⟩)
   rw [hq]
   refine (B_pos ?_).symm
   exact .inr (.inr (.inr (.inr ⟨i,x1,hx1,by omega⟩)))
  ·simp only [SB.T,SB.F,SI.den] at hok
   refine X.go T8_ok 400 _ rfl Tryz.results8 ?_
   conv=>arg 2;cbv
   refine X.back (fun N a w' hN hf hS=>hq' ⟨i+1,by omega,fun j x' hj hj'=>?_⟩ a w' (by simp only;omega) ?_)
   ·by_cases e:j=i
    ·subst e
     rw [hx1] at hj'
     obtain rfl:=Option.some.inj hj'
     omega
    ·exact hno j x' (by omega) hj'
   exact At.again hf hS (by repeat first | exact trivial | refine ⟨⟨_,rfl,.inl ⟨rfl,rfl⟩⟩,?_⟩ | refine ⟨⟨_,rfl,.inr ⟨_,rfl,rfl⟩⟩,?_⟩ | refine ⟨⟨_,rfl,.inr ⟨_,rfl,by simp (disch:=omega) [SV.den,SI.den,wrapU,wrapD]<;>omega⟩⟩,?_⟩) (by repeat first | exact trivial | refine ⟨fun h=>h,SubC.refl rfl,rfl,?_⟩)
 simp only [SB.F,SI.den] at hge
 obtain rfl:n2=i:=by omega
 refine X.go T8_ok 400 _ rfl Tryz.results8 ?_
 conv=>arg 2;cbv
 refine X.done T8_ok rfl (fun N w' v hN hS hv=>⟨fin_bool hv ?_,hS.chg.mono fun k o _ h=>inR_nil h⟩)
 rw [hq]
 refine (B_neg fun h=>?_).symm
 simp only [RegP.great,←hn1,←hn2,←hn3,←hn4] at h
 rcases h with h | h | h | h | ⟨j,d,hj,hd⟩
 ·omega
 ·omega
 ·omega
 ·omega
 ·have:=hno j d (by have:=(List.getElem?_eq_some_iff.1 hj).1;omega) hj
  omega
theorem RecP.cells {x:RecP} {M:Mem} {vs:List Value} (h:RepL M x.toD vs):∃ r:RecC,vs=r.vals∧RepL M x.reg.toD (r.sl.vals.drop 7)∧RepL M x.conf.toD r.cf.vals∧r.kind=x.kind∧r.key=x.key:=by
 obtain ⟨rv,cv,rfl,hr,hc⟩:=RecP.open h
 obtain ⟨p1,c1,p2,c2,p3,c3,p4,c4,rfl,_⟩:=RegP.open hr
 obtain ⟨p5,c5,p6,c6,rfl,_⟩:=ConfP.open hc
 exact ⟨⟨x.kind,x.key,⟨true,x.promise.count,x.promise.node,x.promise.life,x.acc.count,x.acc.node,x.acc.life,x.reg.kind,x.reg.inc,x.reg.state,p1,_,c1,p2,_,c2,p3,_,c3,x.reg.last,p4,_,c4⟩,x.fence,x.life,⟨x.conf.c,p5,_,c5,p6,_,c6⟩⟩,rfl,hr,hc,rfl,rfl⟩
theorem SlotD.cells {x:SlotD} {M:Mem} {c:SlotC} (h:RepL M x.toD c.vals):c.has=x.has∧c.pc=x.promise.count∧c.pn=x.promise.node∧c.pl=x.promise.life∧c.ac=x.acc.count∧c.an=x.acc.node∧c.al=x.acc.life∧RepL M x.reg.toD (c.vals.drop 7):=by
 obtain ⟨rv,he,hr⟩:=SlotD.open h
 simp only [SlotC.vals,List.cons.injEq,Value.bool.injEq,Value.int.injEq,true_and] at he
 obtain ⟨h1,h2,h3,h4,h5,h6,h7,h8⟩:=he
 exact ⟨h1,h2,h3,h4,h5,h6,h7,by rw [←h8] at hr;exact hr⟩
structure StP where
 (slots:Nat→SlotD) (fence life:Int) (conf:ConfP)
def StP.same (x y:StP):Prop:=(∀ i,i<16→x.slots i=y.slots i)∧x.fence=y.fence∧x.life=y.life∧x.conf=y.conf
end Go.Proofs.YthaffebapmkppaaGreat
namespace Go.Eng
open Go
end Go.Eng
namespace Go.Proofs.YthaffebapmkppaaGreat
open Go Go.Eng
end Go.Proofs.YthaffebapmkppaaGreat
namespace Go.Proofs.YthaffebapmkppaaGreat
open Go Go.Eng Go.Lib
end Go.Proofs.YthaffebapmkppaaGreat
namespace Go.Proofs.YthaffebapmkppaaGreat
open Go Go.Eng Go.ChangeShapes Go.WideShapes Go.ChangeAt Go.RowKit
theorem _root_.Go.Eng.FitL.cons {P:Program} {m:Nat} {k:CK} {ks:List CK} {ds:List Dt} (h:FitL P m (k::ks) ds):∃ d r,ds=d::r∧FitC P m k d∧FitL P m ks r:=by simpa only [FitL] using h
theorem _root_.Go.Eng.FitL.nil {P:Program} {m:Nat} {ds:List Dt} (h:FitL P m [] ds):ds=[]:=by simpa only [FitL] using h
theorem _root_.Go.Eng.FitC.int' {P:Program} {m:Nat} {k:IntKind} {d:Dt} (h:FitC P m (.int k) d):∃ z,d=.int k z∧(Lit.int k z).wf=true:=by
 cases m<;>simpa only [FitC] using h
theorem _root_.Go.Eng.FitC.slice' {P:Program} {m e:Nat} {ks:List CK} (hk:kindsOf P 8 e=some ks) {d:Dt} (h:FitC P (m+1) (.slice e) d):∃ rows,d=.list rows∧∀ r∈rows,FitL P m ks r:=by
 simp only [FitC] at h
 obtain ⟨rows,rfl,_,h⟩:=h
 exact ⟨rows,rfl,fun r hr=>by
  obtain ⟨ks',h1,h2⟩:=h r hr
  rw [hk] at h1
  cases h1
  exact h2⟩
def i64K:List CK:=[.int .i64]
def doneK:List CK:=[.int .u8,.int .u64,.int .i64,.int .u64,.int .i64,.slice 2]
def cellK:List CK:=[.int .u64,.int .u8,.int .i64,.int .i64]
def markK:List CK:=[.int .u8,.int .u64,.int .u64]
theorem k_i64:kindsOf Tryz.prog 8 2=some i64K:=by kernel_rfl
theorem k_done:kindsOf Tryz.prog 8 94=some doneK:=by kernel_rfl
theorem k_cell:kindsOf Tryz.prog 8 148=some cellK:=by kernel_rfl
theorem k_mark:kindsOf Tryz.prog 8 151=some markK:=by kernel_rfl
theorem fit_i64 {m:Nat} {d:Dt} (h:FitC Tryz.prog (m+1) (.slice 2) d):∃ l:List Int,d=.list (l.map i64D):=by
 obtain ⟨rows,rfl,hrows⟩:=h.slice' k_i64
 obtain ⟨xs,rfl,_⟩:=map_of (f:=i64D) (p:=fun _=>True) (rows:=rows) fun r hr=>by
  obtain ⟨_,_,rfl,h1,h2⟩:=FitL.cons (hrows r hr)
  obtain ⟨z,rfl,_⟩:=h1.int'
  cases FitL.nil h2
  exact ⟨z,rfl,trivial⟩
 exact ⟨xs,rfl⟩
theorem fit_done {m:Nat} {d:Dt} (h:FitC Tryz.prog (m+2) (.slice 94) d):∃ l:List DoneP,d=.list (l.map DoneP.toD):=by
 obtain ⟨rows,rfl,hrows⟩:=h.slice' k_done
 obtain ⟨xs,rfl,_⟩:=map_of (f:=DoneP.toD) (p:=fun _=>True) (rows:=rows) fun r hr=>by
  obtain ⟨_,_,rfl,h1,h⟩:=FitL.cons (hrows r hr)
  obtain ⟨_,_,rfl,h2,h⟩:=FitL.cons h
  obtain ⟨_,_,rfl,h3,h⟩:=FitL.cons h
  obtain ⟨_,_,rfl,h4,h⟩:=FitL.cons h
  obtain ⟨_,_,rfl,h5,h⟩:=FitL.cons h
  obtain ⟨_,_,rfl,h6,h⟩:=FitL.cons h
  cases FitL.nil h
  obtain ⟨z1,rfl,_⟩:=h1.int'
  obtain ⟨z2,rfl,_⟩:=h2.int'
  obtain ⟨z3,rfl,_⟩:=h3.int'
  obtain ⟨z4,rfl,_⟩:=h4.int'
  obtain ⟨z5,rfl,_⟩:=h5.int'
  obtain ⟨l,rfl⟩:=fit_i64 h6
  exact ⟨⟨z1,z2,⟨z3,z4,z5,l⟩⟩,rfl,trivial⟩
 exact ⟨xs,rfl⟩
theorem fit_cell {m:Nat} {d:Dt} (h:FitC Tryz.prog (m+1) (.slice 148) d):∃ l:List CellP,d=.list (l.map CellP.toD):=by
 obtain ⟨rows,rfl,hrows⟩:=h.slice' k_cell
 obtain ⟨xs,rfl,_⟩:=map_of (f:=CellP.toD) (p:=fun _=>True) (rows:=rows) fun r hr=>by
  obtain ⟨_,_,rfl,h1,h⟩:=FitL.cons (hrows r hr)
  obtain ⟨_,_,rfl,h2,h⟩:=FitL.cons h
  obtain ⟨_,_,rfl,h3,h⟩:=FitL.cons h
  obtain ⟨_,_,rfl,h4,h⟩:=FitL.cons h
  cases FitL.nil h
  obtain ⟨z1,rfl,_⟩:=h1.int'
  obtain ⟨z2,rfl,_⟩:=h2.int'
  obtain ⟨z3,rfl,_⟩:=h3.int'
  obtain ⟨z4,rfl,_⟩:=h4.int'
  exact ⟨⟨z1,z2,z3,z4⟩,rfl,trivial⟩
 exact ⟨xs,rfl⟩
theorem fit_mark {m:Nat} {d:Dt} (h:FitC Tryz.prog (m+1) (.slice 151) d):∃ l:List MarkP,d=.list (l.map MarkP.toD):=by
 obtain ⟨rows,rfl,hrows⟩:=h.slice' k_mark
 obtain ⟨xs,rfl,_⟩:=map_of (f:=MarkP.toD) (p:=fun _=>True) (rows:=rows) fun r hr=>by
  obtain ⟨_,_,rfl,h1,h⟩:=FitL.cons (hrows r hr)
  obtain ⟨_,_,rfl,h2,h⟩:=FitL.cons h
  obtain ⟨_,_,rfl,h3,h⟩:=FitL.cons h
  cases FitL.nil h
  obtain ⟨z1,rfl,_⟩:=h1.int'
  obtain ⟨z2,rfl,_⟩:=h2.int'
  obtain ⟨z3,rfl,_⟩:=h3.int'
  exact ⟨⟨z1,z2,z3⟩,rfl,trivial⟩
 exact ⟨xs,rfl⟩
structure MsgP where
 (kind sender to key conf:Int) (b:BalP) (ok:Bool) (acc:BalP) (reg:RegP) (next:BalP) (max:Int)
def MsgP.toD (x:MsgP):List Dt:=.int .u8 x.kind::.int .u8 x.sender::.int .u8 x.to::.int .u8 x.key::.int .u64 x.conf::(x.b.toD++.bool x.ok::(x.acc.toD++(x.reg.toD++(x.next.toD++[.int .u64 x.max]))))
theorem _root_.Go.Eng.FitC.bool' {P:Program} {m:Nat} {d:Dt} (h:FitC P m .bool d):∃ b,d=.bool b:=by
 cases m<;>simpa only [FitC] using h
def msgK:List CK:=[.int .u8,.int .u8,.int .u8,.int .u8,.int .u64,.int .u64,.int .u8,.int .u32,.bool,.int .u64,.int .u8,.int .u32,.int .u8,.int .u64,.int .i64,.slice 2,.slice 94,.slice 148,.int .u64,.slice 151,.int .u64,.int .u8,.int .u32,.int .u64]
theorem fit_msg {m:Nat} {r:List Dt} (h:FitL Tryz.prog (m+2) msgK r):∃ x:MsgP,r=x.toD:=by
 unfold msgK at h
 obtain ⟨_,_,rfl,h1,h⟩:=FitL.cons h
 obtain ⟨_,_,rfl,h2,h⟩:=FitL.cons h
 obtain ⟨_,_,rfl,h3,h⟩:=FitL.cons h
 obtain ⟨_,_,rfl,h4,h⟩:=FitL.cons h
 obtain ⟨_,_,rfl,h5,h⟩:=FitL.cons h
 obtain ⟨_,_,rfl,h6,h⟩:=FitL.cons h
 obtain ⟨_,_,rfl,h7,h⟩:=FitL.cons h
 obtain ⟨_,_,rfl,h8,h⟩:=FitL.cons h
 obtain ⟨_,_,rfl,h9,h⟩:=FitL.cons h
 obtain ⟨_,_,rfl,h10,h⟩:=FitL.cons h
 obtain ⟨_,_,rfl,h11,h⟩:=FitL.cons h
 obtain ⟨_,_,rfl,h12,h⟩:=FitL.cons h
 obtain ⟨_,_,rfl,h13,h⟩:=FitL.cons h
 obtain ⟨_,_,rfl,h14,h⟩:=FitL.cons h
 obtain ⟨_,_,rfl,h15,h⟩:=FitL.cons h
 obtain ⟨_,_,rfl,h16,h⟩:=FitL.cons h
 obtain ⟨_,_,rfl,h17,h⟩:=FitL.cons h
 obtain ⟨_,_,rfl,h18,h⟩:=FitL.cons h
 obtain ⟨_,_,rfl,h19,h⟩:=FitL.cons h
 obtain ⟨_,_,rfl,h20,h⟩:=FitL.cons h
 obtain ⟨_,_,rfl,h21,h⟩:=FitL.cons h
 obtain ⟨_,_,rfl,h22,h⟩:=FitL.cons h
 obtain ⟨_,_,rfl,h23,h⟩:=FitL.cons h
 obtain ⟨_,_,rfl,h24,h⟩:=FitL.cons h
 cases FitL.nil h
 obtain ⟨z1,rfl,w1⟩:=h1.int'
 obtain ⟨z2,rfl,w2⟩:=h2.int'
 obtain ⟨z3,rfl,w3⟩:=h3.int'
 obtain ⟨z4,rfl,w4⟩:=h4.int'
 obtain ⟨z5,rfl,w5⟩:=h5.int'
 obtain ⟨z6,rfl,w6⟩:=h6.int'
 obtain ⟨z7,rfl,w7⟩:=h7.int'
 obtain ⟨z8,rfl,w8⟩:=h8.int'
 obtain ⟨z9,rfl⟩:=h9.bool'
 obtain ⟨z10,rfl,w10⟩:=h10.int'
 obtain ⟨z11,rfl,w11⟩:=h11.int'
 obtain ⟨z12,rfl,w12⟩:=h12.int'
 obtain ⟨z13,rfl,w13⟩:=h13.int'
 obtain ⟨z14,rfl,w14⟩:=h14.int'
 obtain ⟨z15,rfl,w15⟩:=h15.int'
 obtain ⟨l1,rfl⟩:=fit_i64 h16
 obtain ⟨l2,rfl⟩:=fit_done h17
 obtain ⟨l3,rfl⟩:=fit_cell h18
 obtain ⟨z19,rfl,w19⟩:=h19.int'
 obtain ⟨l4,rfl⟩:=fit_mark h20
 obtain ⟨z21,rfl,w21⟩:=h21.int'
 obtain ⟨z22,rfl,w22⟩:=h22.int'
 obtain ⟨z23,rfl,w23⟩:=h23.int'
 obtain ⟨z24,rfl,w24⟩:=h24.int'
 exact ⟨⟨z1,z2,z3,z4,z5,⟨z6,z7,z8⟩,z9,⟨z10,z11,z12⟩,⟨z13,z14,z15,l1,l2,l3,z19,l4⟩,⟨z21,z22,z23⟩,z24⟩,rfl⟩
theorem k_msg:kindsOf Tryz.prog 8 56=some msgK:=by kernel_rfl
theorem MsgP.open {x:MsgP} {M:Mem} {vs:List Value} (h:RepL M x.toD vs):∃ rv,vs=.int .u8 x.kind::.int .u8 x.sender::.int .u8 x.to::.int .u8 x.key::.int .u64 x.conf::.int .u64 x.b.count::.int .u8 x.b.node::.int .u32 x.b.life::.bool x.ok::.int .u64 x.acc.count::.int .u8 x.acc.node::.int .u32 x.acc.life::(rv++[.int .u64 x.next.count,.int .u8 x.next.node,.int .u32 x.next.life,.int .u64 x.max])∧RepL M x.reg.toD rv:=by
 unfold MsgP.toD at h
 obtain ⟨_,_,rfl,h1,h⟩:=RepL.cons h
 obtain ⟨_,_,rfl,h2,h⟩:=RepL.cons h
 obtain ⟨_,_,rfl,h3,h⟩:=RepL.cons h
 obtain ⟨_,_,rfl,h4,h⟩:=RepL.cons h
 obtain ⟨_,_,rfl,h5,h⟩:=RepL.cons h
 obtain ⟨bv,_,rfl,h6,h⟩:=h.split
 obtain ⟨_,_,rfl,h7,h⟩:=RepL.cons h
 obtain ⟨av,_,rfl,h8,h⟩:=h.split
 obtain ⟨rv,_,rfl,h9,h⟩:=h.split
 obtain ⟨nv,_,rfl,h10,h⟩:=h.split
 obtain ⟨_,_,rfl,h11,h⟩:=RepL.cons h
 have hn:=RepL.nil h;subst hn
 rw [RepC.int' h1,RepC.int' h2,RepC.int' h3,RepC.int' h4,RepC.int' h5,RepC.bool' h7,RepC.int' h11,BalP.open h6,BalP.open h8,BalP.open h10]
 exact ⟨rv,by simp,h9⟩
theorem arg_msg {W:World} {v:Value} (h:ArgOk Tryz.prog W 56 v):∃ (x:MsgP) (vs:List Value),v=.agg vs.toArray∧RepL (wm W) x.toD vs:=by
 obtain ⟨cs,rfl,_⟩:=h.struct Tryz.underlying56 k_msg
 obtain ⟨ds,h1,h2⟩:=h.rep k_msg (m:=3) (by kernel_rfl)
 obtain ⟨x,rfl⟩:=fit_msg h1
 exact ⟨x,cs,rfl,by simpa [Value.cells] using h2⟩
structure OpP where
 (kind key client seq action party arg source inc cell:Int)
def OpP.vals (o:OpP):List Value:=[.int .u8 o.kind,.int .u8 o.key,.int .u8 o.client,.int .u64 o.seq,.int .i64 o.action,.int .i64 o.party,.int .i64 o.arg,.int .u8 o.source,.int .u64 o.inc,.int .u64 o.cell]
end Go.Proofs.YthaffebapmkppaaGreat
namespace Go.Eng
open Go
abbrev ZT:=List (Nat × SV)
def lookZ:ZT→Nat→Option SV
 | [],_=>none
 | (k,v)::r,t=>bif Nat.beq k t then some v else lookZ r t
def ZOk (P:Program):ZT→Prop
 | []=>True
 | (t,s)::r=>(∃ z,(∀ w,(zeroValue t).run P w=.ok z w)∧∀ N,s.den N=some z)∧ZOk P r
theorem ZOk.look {P:Program}:∀ {Z:ZT},ZOk P Z→∀ {t:Nat} {s:SV},lookZ Z t=some s→∃ z,(∀ w,(zeroValue t).run P w=.ok z w)∧∀ N,s.den N=some z
 | [],_,t,s,h=>by simp [lookZ] at h
 | (k,v)::r,⟨h1,h2⟩,t,s,h=>by
  simp only [lookZ] at h
  by_cases hk:k=t
  ·subst hk;simp at h;subst h;exact h1
  ·simp only [beq_ne hk,cond_false] at h;exact ZOk.look h2 h
end Go.Eng
namespace Go.Proofs.YthaffebapmkppaaGreat
open Go Go.Eng
theorem told_run {P:Program} {F:FT} (hF:FTok P F) {g:Nat} {fi:FI} (hg:FOk P g fi) (m:Nat) (ss:List SV) {args:Array Value} (ha:SV.denL [] ss=some args.toList) (hle:Nat.ble args.size fi.n=true) {l:List SV} {v:Value} (hv:∀ N,(resV l).den N=some v)
  (h:runEnds fi.T fi.rs (runC F true m fi.T fi.B fi.n fi.rs [] [.code fi.body] ⟨argFr ss 0,[]⟩)=some l) (w:World):Calls P g args w fun e w'=>e=.returned v∧Chg (fun _ _=>False) w w' :=
 (runR hF hg m true ss ha hle h w).mono fun e w' ⟨N,u,h1,h2,h3⟩=>by
  rw [hv N] at h2
  cases h2
  exact ⟨h1,h3⟩
structure MsgC where
 (k s t y c b1 b2 b3:Int) (ok:Bool) (a1 a2 a3 rk ri rs:Int) (p1:Option Addr) (n1 c1:Nat) (p2:Option Addr) (n2 c2:Nat) (p3:Option Addr) (n3 c3:Nat) (rl:Int) (p4:Option Addr) (n4 c4:Nat) (x1 x2 x3 mx:Int)
def MsgC.vals (m:MsgC):List Value:=[.int .u8 m.k,.int .u8 m.s,.int .u8 m.t,.int .u8 m.y,.int .u64 m.c,.int .u64 m.b1,.int .u8 m.b2,.int .u32 m.b3,.bool m.ok,.int .u64 m.a1,.int .u8 m.a2,.int .u32 m.a3,.int .u8 m.rk,.int .u64 m.ri,.int .i64 m.rs,.slice m.p1 m.n1 m.c1,.slice m.p2 m.n2 m.c2,.slice m.p3 m.n3 m.c3,.int .u64 m.rl,.slice m.p4 m.n4 m.c4,.int .u64 m.x1,.int .u8 m.x2,.int .u32 m.x3,.int .u64 m.mx]
def MsgC.reg (m:MsgC):List Value:=[.int .u8 m.rk,.int .u64 m.ri,.int .i64 m.rs,.slice m.p1 m.n1 m.c1,.slice m.p2 m.n2 m.c2,.slice m.p3 m.n3 m.c3,.int .u64 m.rl,.slice m.p4 m.n4 m.c4]
theorem MsgP.cells {x:MsgP} {M:Mem} {vs:List Value} (h:RepL M x.toD vs):∃ m:MsgC,vs=m.vals∧RepL M x.reg.toD m.reg:=by
 obtain ⟨rv,rfl,hr⟩:=MsgP.open h
 obtain ⟨p1,c1,p2,c2,p3,c3,p4,c4,rfl,_⟩:=RegP.open hr
 exact ⟨⟨x.kind,x.sender,x.to,x.key,x.conf,x.b.count,x.b.node,x.b.life,x.ok,x.acc.count,x.acc.node,x.acc.life,x.reg.kind,x.reg.inc,x.reg.state,p1,_,c1,p2,_,c2,p3,_,c3,x.reg.last,p4,_,c4,x.next.count,x.next.node,x.next.life,x.max⟩,rfl,hr⟩
end Go.Proofs.YthaffebapmkppaaGreat
namespace Go.Proofs.YthaffebapmkppaaGreat
open Go Go.Eng Go.Sort
def AtA (w:World) (b y:Nat) (d:Array Int):Prop:=∀ k,k<d.size→w.cell? ⟨b,y+k,none⟩=some (.int .u8 d[k]!)∧w.frozen? ⟨b,y+k,none⟩=false
def arrM (m0:Mem) (b y:Nat) (d:Array Int):Mem:=fun k o=>if k=b∧y≤o∧o<y+d.size then some (.int .u8 d[o-y]!) else m0 k o
theorem arrM_in {m0:Mem} {b y i:Nat} {d:Array Int} (h:i<d.size):arrM m0 b y d b (y+i)=some (.int .u8 d[i]!):=by
 unfold arrM
 rw [if_pos (by omega),Nat.add_sub_cancel_left]
theorem arrM_some {m0:Mem} {b y k o:Nat} {d:Array Int} {v:Value} (h:arrM m0 b y d k o=some v):((k=b∧y≤o∧o<y+d.size)∧v=.int .u8 d[o-y]!)∨(¬(k=b∧y≤o∧o<y+d.size)∧m0 k o=some v):=by
 unfold arrM at h
 by_cases e:k=b∧y≤o∧o<y+d.size
 ·rw [if_pos e] at h
  exact .inl ⟨e,(Option.some.inj h).symm⟩
 ·rw [if_neg e] at h
  exact .inr ⟨e,h⟩
@[reducible] noncomputable def aE (P:Program) (fn:Func) (Q:Ending→World→Prop) (w:World) (b y n:Nat) (m0:Mem) (d:Array Int) (N0:Nums) (B:SchT):Ctx :=
 mkE P fn Q w (arrD b y n) (arrM m0 b y d) (arrD b y n) (fun _=>True) N0 B
def arrD2 (b y n i j:Nat):Nat→Nat→Prop:=fun k o=>k=b∧y≤o∧o<y+n∧o≠y+i∧o≠y+j
def arrM2 (m0:Mem) (b y i j:Nat) (d:Array Int):Mem:=fun k o=>if k=b∧(o=y+i∨o=y+j) then none else arrM m0 b y d k o
theorem X.beginA {P:Program} {f:FuncId} {fn:Func} {c:Code} {args:Array Value} {w:World} {Q:Ending→World→Prop} {b y n:Nat} {d:Array Int} (hA:AtA w b y d) (hn:d.size=n) {ss:List SV} (hf:P.funcs[f]?=some fn) (hb:fn.body=some c) {B:SchT} (hreg:regsO B fn.body=true)
  (hle:Nat.ble args.size fn.ntmps=true) (ha:SV.denL [] ss=some args.toList) (h:X (aE P fn Q w b y n (wm w) d [] B) [.code c] ⟨argFr ss 0,[]⟩):Calls P f args w Q:=by
 refine X.enter (aE P fn Q w b y n (wm w) d [] B) hf hb rfl rfl rfl (by rw [hb] at hreg;exact hreg) (Nat.le_of_ble_eq_true hle) ha ?_ h
 refine ⟨rfl,by simp,by simp,by simp,by simp,by simp,by simp,by simp,fun k o v hv=>?_,by simp,by simp,?_,fun _ _ _ _ _=>trivial,trivial,Chg.refl _ _,by simp⟩
 ·rcases arrM_some hv with ⟨⟨e1,e2,e3⟩,e4⟩ | ⟨_,e⟩
  ·have:=(hA (o-y) (by omega)).1
   rw [show y+(o-y)=o by omega] at this
   rw [e1,this,e4]
  ·exact e
 ·rintro k o ⟨rfl,e2,e3⟩
  have:=(hA (o-y) (by omega)).1
  rw [show y+(o-y)=o by omega] at this
  exact .inl (by rw [this];rfl)
section
variable {P:Program} {fn:Func} {Q:Ending→World→Prop} {W:World} {b y n:Nat} {m0:Mem} {d d0:Array Int} {N0:Nums} {B:SchT} {k:List It} {s:St}
theorem X.take2 (hA:AtA W b y d0) (h0:d0.size=n) (hn:d.size=n) {i j:Nat} {xi xj:Int} (hij:i≠j) (hi:i<n) (hj:j<n) (hxi:d[i]! = xi) (hxj:d[j]! = xj) (hrg:∀ g∈s.rg,g.own=true∨g.cells=[])
  (h:∀ N:Nums,N0.le N→N.length=s.rg.length→X (mkE P fn Q W (arrD b y n) (arrM2 m0 b y i j d) (arrD2 b y n i j) (fun _=>True) ((N++[⟨b,y+i,1⟩])++[⟨b,y+j,1⟩]) B) k ⟨s.fr,(s.rg++[⟨true,[.int .u8 (.v xi)],none⟩])++[⟨true,[.int .u8 (.v xj)],none⟩]⟩) :
  X (aE P fn Q W b y n m0 d N0 B) k s:=by
 refine X.conv fun N a w hN hf hS=>?_
 refine ⟨mkE P fn Q W (arrD b y n) (arrM2 m0 b y i j d) (arrD2 b y n i j) (fun _=>True) ((N++[⟨b,y+i,1⟩])++[⟨b,y+j,1⟩]) B,⟨s.fr,(s.rg++[⟨true,[.int .u8 (.v xi)],none⟩])++[⟨true,[.int .u8 (.v xj)],none⟩]⟩,rfl,rfl,rfl,rfl,⟨_,Nums.le.refl _,(hf.mono (Nums.le_append N [⟨b,y+i,1⟩])).mono (Nums.le_append _ _),?_⟩,h N hN hS.len⟩
 have ci:w.cell? ⟨b,y+i,none⟩=some (.int .u8 xi):=by rw [←hxi];exact hS.imm _ _ _ (arrM_in (by omega))
 have cj:w.cell? ⟨b,y+j,none⟩=some (.int .u8 xj):=by rw [←hxj];exact hS.imm _ _ _ (arrM_in (by omega))
 have fz:∀ q,q<n→w.frozen? ⟨b,y+q,none⟩=false:=fun q hq=>by
  obtain ⟨h1,h2⟩:=hA q (by omega)
  exact frozen_stays hS.chg (by rw [h1];rfl) h2
 have s1:Sat { (aE P fn Q W b y n m0 d N0 B).toEnv with im:=arrM2 m0 b y i j d } N s.rg w:=Sat.imSay hS fun k o v hv=>.inl (by
  unfold arrM2 at hv
  split at hv
  ·cases hv
  ·exact hv)
 have s2:=s1.focus (b:=b) (o:=y+i) (cs:=[.int .u8 (.v xi)]) (fun k o=>arrD b y n k o∧o≠y+i) (fun _=>True) (World.block_lt_of_cell? _ _ ci)
  (fun q c hq=>by cases q with
   | zero=>simp at hq;subst hq;exact ⟨_,rfl,ci⟩
   | succ q=>simp at hq)
  (fun q hq=>by simp at hq;subst hq;exact fz i hi) (fun q hq=>by simp at hq;subst hq;exact ⟨rfl,by omega,by omega⟩)
  (fun k o ⟨h1,h2⟩=>⟨h1,by simp;intro _ _;omega⟩) (.inr fun q hq=>by simp at hq;subst hq;exact ⟨rfl,by omega,by omega⟩)
  (fun q hq=>by simp at hq;subst hq;simp [arrM2]) hrg (fun _ _ _ _ _=>trivial) trivial
 have s3:=s2.focus (b:=b) (o:=y+j) (cs:=[.int .u8 (.v xj)]) (arrD2 b y n i j) (fun _=>True) (World.block_lt_of_cell? _ _ cj)
  (fun q c hq=>by cases q with
   | zero=>simp at hq;subst hq;exact ⟨_,rfl,cj⟩
   | succ q=>simp at hq)
  (fun q hq=>by simp at hq;subst hq;exact fz j hj) (fun q hq=>by simp at hq;subst hq;exact ⟨⟨rfl,by omega,by omega⟩,by omega⟩)
  (fun k o ⟨h1,h2,h3,h4,h5⟩=>⟨⟨⟨h1,h2,h3⟩,h4⟩,by simp;intro _ _;omega⟩) (.inr fun q hq=>by simp at hq;subst hq;exact ⟨rfl,by omega,by omega⟩)
  (fun q hq=>by simp at hq;subst hq;simp [arrM2]) (fun g hg=>by
   rcases List.mem_append.1 hg with hg | hg
   ·exact hrg g hg
   ·simp at hg;subst hg;exact .inl rfl) (fun _ _ _ _ _=>trivial) trivial
 exact s3
theorem swpZ_get {i j q:Nat} (hi:i<d.size) (hj:j<d.size) (hq:q<d.size):(swp d i j)[q]! = if q=j then d[i]! else if q=i then d[j]! else d[q]! := by
 have hs:q<(swp d i j).size:=by simpa [swp] using hq
 have h1:∀ (x:Array Int) (h:q<x.size),x[q]! = x[q]:=fun x h=>getElem!_pos x q h
 rw [h1 _ hs]
 simp only [swp]
 rw [Array.getElem_setIfInBounds (by simpa using hq)]
 by_cases e:q=j
 ·subst e;simp
 ·rw [if_neg (fun h=>e h.symm),if_neg e,Array.getElem_setIfInBounds hq]
  by_cases e2:q=i
  ·subst e2;simp
  ·rw [if_neg (fun h=>e2 h.symm),if_neg e2,h1 _ hq]
theorem swpZ_size (d:Array Int) (i j:Nat):(swp d i j).size=d.size:=by simp [swp]
theorem X.give2 {i j r:Nat} {xi xj:Int} (hn:d.size=n) (hij:i≠j) (hi:i<n) (hj:j<n) (hxi:d[i]! = xi) (hxj:d[j]! = xj) {N:Nums} (h1:s.rg[r]?=some ⟨true,[.int .u8 (.v xj)],none⟩) (h2:s.rg[r+1]?=some ⟨true,[.int .u8 (.v xi)],none⟩) (p1:N[r]?=some ⟨b,y+i,1⟩) (p2:N[r+1]?=some ⟨b,y+j,1⟩)
  (h:X (aE P fn Q W b y n m0 (swp d i j) N B) k ⟨s.fr,(s.rg.set r ⟨false,[],none⟩).set (r+1) ⟨false,[],none⟩⟩) :
  X (mkE P fn Q W (arrD b y n) (arrM2 m0 b y i j d) (arrD2 b y n i j) (fun _=>True) N B) k s:=by
 refine X.conv fun N' a w hN hf hS=>?_
 refine ⟨aE P fn Q W b y n m0 (swp d i j) N B,⟨s.fr,(s.rg.set r ⟨false,[],none⟩).set (r+1) ⟨false,[],none⟩⟩,rfl,rfl,rfl,rfl,⟨N',hN,hf,?_⟩,h⟩
 have q1:=hN r _ p1
 have q2:=hN _ _ p2
 have c1:=hS.cell r _ _ h1 q1 0 _ rfl
 have c2:=hS.cell _ _ _ h2 q2 0 _ rfl
 simp only [SV.den,SI.den,Option.some.injEq,Nat.add_zero] at c1 c2
 obtain ⟨_,rfl,c1⟩:=c1
 obtain ⟨_,rfl,c2⟩:=c2
 have s1:=Sat.give hS h1 q1 rfl (fun k o=>arrD2 b y n i j k o∨(k=b∧o=y+i)) (fun _=>True) (fun k o hk=>hk.imp id fun ⟨e1,e2⟩=>⟨e1,by show y+i≤o;omega,by show o<y+i+1;omega⟩) (fun _ _ _ _ _=>trivial) trivial
 have h2':(s.rg.set r ⟨false,[],none⟩)[r+1]?=some ⟨true,[.int .u8 (.v xi)],none⟩:=by rw [List.getElem?_set_ne (by omega)];exact h2
 have s2:=Sat.give s1 h2' q2 rfl (arrD b y n) (fun _=>True) (fun k o ⟨e1,e2,e3⟩=>by
  by_cases a1:o=y+j
  ·exact .inr ⟨e1,by show y+j≤o;omega,by show o<y+j+1;omega⟩
  ·by_cases a2:o=y+i
   ·exact .inl (.inr ⟨e1,a2⟩)
   ·exact .inl (.inl ⟨e1,e2,e3,a2,a1⟩)) (fun _ _ _ _ _=>trivial) trivial
 refine Sat.imSay (m':=arrM m0 b y (swp d i j)) s2 fun k o v hv=>?_
 show arrM2 m0 b y i j d k o=some v∨_
 rcases arrM_some hv with ⟨⟨e1,e2,e3⟩,e4⟩ | ⟨e,hv⟩
 ·rw [swpZ_size] at e3
  have hq:o-y<d.size:=by omega
  rw [swpZ_get (by omega) (by omega) hq] at e4
  by_cases a1:o=y+j
  ·refine .inr ⟨⟨e1,e2,by omega⟩,?_⟩
   rw [if_pos (by omega),hxi] at e4
   rw [e1,a1,c2,e4]
  ·by_cases a2:o=y+i
   ·refine .inr ⟨⟨e1,e2,by omega⟩,?_⟩
    rw [if_neg (by omega),if_pos (by omega),hxj] at e4
    rw [e1,a2,c1,e4]
   ·left
    rw [if_neg (by omega),if_neg (by omega)] at e4
    unfold arrM2 arrM
    rw [if_neg (by rintro ⟨_,e | e⟩;exact a2 e;exact a1 e),if_pos ⟨e1,e2,e3⟩,e4]
 ·left
  rw [swpZ_size] at e
  unfold arrM2 arrM
  rw [if_neg (by rintro ⟨e1,e2 | e2⟩<;>exact e ⟨e1,by omega,by omega⟩),if_neg e]
  exact hv
theorem swpZ_self {i:Nat} (hi:i<d.size):swp d i i=d:=by
 apply Array.ext
 ·simp [swp]
 ·intro q h1 h2
  have:=swpZ_get (d:=d) hi hi (q:=q) (by simpa [swp] using h1)
  rw [getElem!_pos _ q h1,getElem!_pos d q h2] at this
  rw [this]
  split
  ·rename_i e;subst e;rw [getElem!_pos d _ hi]
  ·rfl
theorem X.take1 (hA:AtA W b y d0) (h0:d0.size=n) (hn:d.size=n) {i:Nat} {xi:Int} (hi:i<n) (hxi:d[i]! = xi) (hrg:∀ g∈s.rg,g.own=true∨g.cells=[])
  (h:∀ N:Nums,N0.le N→N.length=s.rg.length→X (mkE P fn Q W (arrD b y n) (arrM2 m0 b y i i d) (arrD2 b y n i i) (fun _=>True) (N++[⟨b,y+i,1⟩]) B) k ⟨s.fr,s.rg++[⟨true,[.int .u8 (.v xi)],none⟩]⟩) :
  X (aE P fn Q W b y n m0 d N0 B) k s:=by
 refine X.conv fun N a w hN hf hS=>?_
 refine ⟨mkE P fn Q W (arrD b y n) (arrM2 m0 b y i i d) (arrD2 b y n i i) (fun _=>True) (N++[⟨b,y+i,1⟩]) B,⟨s.fr,s.rg++[⟨true,[.int .u8 (.v xi)],none⟩]⟩,rfl,rfl,rfl,rfl,⟨_,Nums.le.refl _,hf.mono (Nums.le_append _ _),?_⟩,h N hN hS.len⟩
 have ci:w.cell? ⟨b,y+i,none⟩=some (.int .u8 xi):=by rw [←hxi];exact hS.imm _ _ _ (arrM_in (by omega))
 have fz:w.frozen? ⟨b,y+i,none⟩=false:=by
  obtain ⟨h1,h2⟩:=hA i (by omega)
  exact frozen_stays hS.chg (by rw [h1];rfl) h2
 have s1:Sat { (aE P fn Q W b y n m0 d N0 B).toEnv with im:=arrM2 m0 b y i i d } N s.rg w:=Sat.imSay hS fun k o v hv=>.inl (by
  unfold arrM2 at hv
  split at hv
  ·cases hv
  ·exact hv)
 exact s1.focus (b:=b) (o:=y+i) (cs:=[.int .u8 (.v xi)]) (arrD2 b y n i i) (fun _=>True) (World.block_lt_of_cell? _ _ ci)
  (fun q c hq=>by cases q with
   | zero=>simp at hq;subst hq;exact ⟨_,rfl,ci⟩
   | succ q=>simp at hq)
  (fun q hq=>by simp at hq;subst hq;exact fz) (fun q hq=>by simp at hq;subst hq;exact ⟨rfl,by omega,by omega⟩)
  (fun k o ⟨h1,h2,h3,h4,h5⟩=>⟨⟨h1,h2,h3⟩,by simp;intro _ _;omega⟩) (.inr fun q hq=>by simp at hq;subst hq;exact ⟨rfl,by omega,by omega⟩)
  (fun q hq=>by simp at hq;subst hq;simp [arrM2]) hrg (fun _ _ _ _ _=>trivial) trivial
theorem X.give1 {i r:Nat} {xi:Int} (hn:d.size=n) (hi:i<n) (hxi:d[i]! = xi) {N:Nums} (h1:s.rg[r]?=some ⟨true,[.int .u8 (.v xi)],none⟩) (p1:N[r]?=some ⟨b,y+i,1⟩)
  (h:X (aE P fn Q W b y n m0 d N B) k ⟨s.fr,s.rg.set r ⟨false,[],none⟩⟩) :
  X (mkE P fn Q W (arrD b y n) (arrM2 m0 b y i i d) (arrD2 b y n i i) (fun _=>True) N B) k s:=by
 refine X.conv fun N' a w hN hf hS=>?_
 refine ⟨aE P fn Q W b y n m0 d N B,⟨s.fr,s.rg.set r ⟨false,[],none⟩⟩,rfl,rfl,rfl,rfl,⟨N',hN,hf,?_⟩,h⟩
 have q1:=hN r _ p1
 have c1:=hS.cell r _ _ h1 q1 0 _ rfl
 simp only [SV.den,SI.den,Option.some.injEq,Nat.add_zero] at c1
 obtain ⟨_,rfl,c1⟩:=c1
 have s2:=Sat.give hS h1 q1 rfl (arrD b y n) (fun _=>True) (fun k o ⟨e1,e2,e3⟩=>by
  by_cases a1:o=y+i
  ·exact .inr ⟨e1,by show y+i≤o;omega,by show o<y+i+1;omega⟩
  ·exact .inl ⟨e1,e2,e3,a1,a1⟩) (fun _ _ _ _ _=>trivial) trivial
 refine Sat.imSay (m':=arrM m0 b y d) s2 fun k o v hv=>?_
 show arrM2 m0 b y i i d k o=some v∨_
 by_cases e:k=b∧o=y+i
 ·have hv:arrM m0 b y d k o=some v:=hv
  rw [e.1,e.2,arrM_in (by omega),hxi] at hv
  exact .inr ⟨⟨e.1,by omega,by omega⟩,by rw [e.1,e.2,c1,hv]⟩
 ·left
  unfold arrM2
  rw [if_neg (by rintro ⟨e1,e2 | e2⟩<;>exact e ⟨e1,e2⟩)]
  exact hv
theorem Goes.arr {N:Nums} {dst:Option Nat} {v:Value} {w w':World} {d':Array Int} (hN:N0.le N) (hS:Sat (aE P fn Q W b y n m0 d N0 B).toEnv N s.rg w) (hn:d.size=n) (hn':d'.size=n) (hA:AtA w' b y d') (hc:Chg (arrD b y n) w w') (hrg:∀ g∈s.rg,g.own=true∨g.cells=[])
  {r:SV} (hr:r.den N=some v) {f':Fr} (hp:putO fn.ntmps s.fr dst (.val r)=some f') (h:X (aE P fn Q W b y n m0 d' N0 B) k ⟨f',s.rg⟩):Goes (aE P fn Q W b y n m0 d N0 B) N k s.fr dst v w':=by
 refine ⟨aE P fn Q W b y n m0 d' N0 B,N,r,s.rg,f',rfl,rfl,rfl,rfl,Nums.le.refl N,hN,?_,hr,hp,h⟩
 have s1:Sat { (aE P fn Q W b y n m0 d N0 B).toEnv with im:=fun k o=>if k=b∧y≤o∧o<y+n then none else m0 k o } N s.rg w:=Sat.imSay hS fun k o v hv=>.inl (by
  by_cases e:k=b∧y≤o∧o<y+n
  ·rw [if_pos e] at hv;cases hv
  ·rw [if_neg e] at hv
   show arrM m0 b y d k o=some v
   unfold arrM
   rw [hn,if_neg e];exact hv)
 have s2:=Sat.turn s1 (w':=w') (D':=arrD b y n) (R':=fun _=>True) hc (fun k o h=>.inr h) (fun k o h=>if_pos h) hrg (fun k o hd=>⟨.inl hd,by
  obtain ⟨rfl,e2,e3⟩:=hd
  have:=(hA (o-y) (by omega)).1
  rw [show y+(o-y)=o by omega] at this
  exact .inl (by rw [this];rfl)⟩) (fun _ _ _ _ _=>trivial) trivial
 refine Sat.imSay (m':=arrM m0 b y d') s2 fun k o v hv=>?_
 rcases arrM_some hv with ⟨⟨e1,e2,e3⟩,e4⟩ | ⟨e,hv⟩
 ·refine .inr ⟨⟨e1,e2,by omega⟩,?_⟩
  have:=(hA (o-y) (by omega)).1
  rw [show y+(o-y)=o by omega] at this
  rw [e1,this,e4]
 ·left
  show (if k=b∧y≤o∧o<y+n then none else m0 k o)=some v
  rw [if_neg (by rw [←hn'];exact e)]
  exact hv
theorem Sat.arr {N:Nums} {w:World} {rg:List Rg} (hS:Sat (aE P fn Q W b y n m0 d N0 B).toEnv N rg w) (hA:AtA W b y d0) (h0:d0.size=n) (hn:d.size=n):AtA w b y d∧Chg (arrD b y n) W w:=by
 refine ⟨fun q hq=>⟨hS.imm _ _ _ (arrM_in hq),?_⟩,hS.chg⟩
 obtain ⟨h1,h2⟩:=hA q (by omega)
 exact frozen_stays hS.chg (by rw [h1];rfl) h2
def PostA (b y n:Nat) (w:World) (d':Array Int):Ending→World→Prop:=fun e w'=>e=.returned (.tuple #[])∧AtA w' b y d'∧Chg (arrD b y n) w w'
end
end Go.Proofs.YthaffebapmkppaaGreat
