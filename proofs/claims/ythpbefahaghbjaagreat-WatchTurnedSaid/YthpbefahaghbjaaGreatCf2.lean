import Derived.Test.YthpbefahaghbjaaGreatRi5
import Derived.Shelf.SlSorted.Search
import Derived.Laws.BytesArg
import Derived.Lib.Bytes
import Derived.Test.YthpbefahaghbjaaGreatPd2
import Derived.Test.YthpbefahaghbjaaGreatLaw
set_option maxHeartbeats 16000000
set_option maxRecDepth 100000
set_option cbv.maxSteps 100000000
namespace Go.Proofs.YthpbefahaghbjaaGreat
open Go Go.Eng Go.Sort
theorem vk_arr {E:Env} {N0:Nums} {rg:List Rg} {f:Fr} {g:GK} {t e:TypeId} {x ix:Operand} {n z q r o c:Nat} {kd:IntKind} {s:SI} (hx:evK f g x=some (.own r o)) (hix:evK f g ix=some (.int kd s)) (hz:g.T→s.den=(z:Int)) (hu:E.P.underlying t=some (.array n e)) (hq:∀ w,(sizeOf e).run E.P w=.ok q w)
  (hlt:z<n) (hc:c=o+z*q) (hr:r<rg.length):ValOk E N0 rg f g (.indexAddr t x ix) (.own r c):=by
 intro ht N ρ op w hN0 hop hρ hV
 have h1:=hρ _ _ hx
 have h2:=hρ _ _ hix
 obtain ⟨p,hp⟩:∃ p,N[r]?=some p:=⟨_,List.getElem?_eq_getElem (by have:=hV.1.len;omega)⟩
 simp only [SV.den,hp,hz ht,Option.some.injEq] at h1 h2
 refine ⟨.pointer (some ⟨p.b,p.o+c,none⟩),by simp only [SV.den,hp],fun w' _=>?_⟩
 simp only [execOp,hop,←h1,←h2,Sem.run_bind,Result.andThen,Sem.run_pure]
 have hz':(z:Int)<n:=by omega
 simp [Instr.indexAt,asIntOf,run_underlying hu,Instr.sureAddr,Result.andThen,hlt,hq,addr_add,hc,Nat.add_assoc]
theorem vk_load1 {E:Env} {N0:Nums} {rg:List Rg} {f:Fr} {g:GK} {t:TypeId} {x:Operand} {r c:Nat} {gg:Rg} {rs:SV} (hx:evK f g x=some (.own r c)) (ha:∀ w,(isAgg t).run E.P w=.ok false w) (hr:rg[r]?=some gg) (hc:gg.cells[c]?=some rs):ValOk E N0 rg f g (.load t x) rs:=by
 intro _ N ρ o w hN0 hop hρ hV
 have h1:=hρ _ _ hx
 obtain ⟨p,hp⟩:∃ p,N[r]?=some p:=⟨_,List.getElem?_eq_getElem (Nat.lt_of_lt_of_le (List.getElem?_eq_some_iff.1 hr).1 hV.1.len)⟩
 simp only [SV.den,hp,Option.some.injEq] at h1
 obtain ⟨v,hv,_⟩:=hV.1.cell r gg p hr hp c rs hc
 refine ⟨v,hv,fun w' hV'=>?_⟩
 obtain ⟨v',hv',hc'⟩:=hV'.1.cell r gg p hr hp c rs hc
 rw [hv] at hv';cases hv'
 simp only [execOp,hop,←h1,Instr.loadAt,Instr.sureAddr,loadVar,Sem.run_bind,Sem.run_pure,Result.andThen,ha,Bool.false_eq_true,if_false]
 simp [hc']
theorem vk_rem {E:Env} {N0:Nums} {rg:List Rg} {f:Fr} {g:GK} {t ty:TypeId} {x y:Operand} {kd:IntKind} {s1 s2 r:SI} (hx:evK f g x=some (.int kd s1)) (hy:evK f g y=some (.int kd s2)) (hz:g.T→s2.den≠0∧r.den=s1.den.tmod s2.den):ValOk E N0 rg f g (.binOp .rem t x y ty) (.int kd r):=by
 intro ht N ρ o w hN0 hop hρ hV
 have h1:=hρ _ _ hx
 have h2:=hρ _ _ hy
 simp only [SV.den,Option.some.injEq] at h1 h2
 obtain ⟨hne,hr⟩:=hz ht
 refine ⟨.int kd r.den,rfl,fun w' _=>?_⟩
 have h3:(do eqGuard .rem t x y (ρ x) (ρ y);binOp .rem t (ρ x) (ρ y):Sem Value).run E.P w'=.ok (.int kd r.den) w':=by
  rw [←h1,←h2]
  simp only [Sem.run_bind]
  rw [eqGuard_none _ _ _ _ (by simp) (by simp)]
  simp [Result.andThen,binOp,Op.intDiv,hne,hr]
 simp only [execOp,hop]
 rw [Sem.run_bind,h3]
 rfl
theorem oe_store {T:Tab} {n:Nat} {all:Array Oper} {i:Nat} {s:St} {o:Oper} {t:TypeId} {x y:Operand} {r c:Nat} {v:SV} {ti:TI} {g:Rg} {cs':List SV} (ho:nth all.toList i=some o) (hsu:sure all s.fr o=true) (hop:o.op=.store t x y) (hd:o.dst=none) (hx:ev s.fr x=some (.own r c)) (hy:ev s.fr y=some v) (ht:lookT T t=some ti)
  (hg:nth s.rg r=some g) (hown:g.own=true) (hl:Nat.beq v.cells.length ti.size=true) (hle:c+ti.size≤g.cells.length) (h1:v.cells.all SV.one=true) (hcs:setRow g.cells c v.cells=cs'):OpEq T n all i s ⟨s.fr,s.rg.set r { g with cells:=cs' }⟩:=by
 refine ⟨?_⟩
 have hble:Nat.ble (c+ti.size) g.cells.length=true:=Nat.ble_eq_true_of_le hle
 simp only [opE,ho,hsu,cond_true,hop,stepE,hx,hy,ht,hg,hown,hl,hble,h1,Bool.and_self,hcs,hd,putO]
def past (k r:Nat):Nat:=if r<k then r else r+1
theorem past_get {α:Type} {A B:List α} {x v:α} {r:Nat} (h:(A++B)[r]?=some v):(A++x::B)[past A.length r]?=some v:=by
 unfold past
 by_cases hr:r<A.length
 ·rw [if_pos hr,List.getElem?_append_left hr]
  rwa [List.getElem?_append_left hr] at h
 ·rw [if_neg hr,List.getElem?_append_right (by omega)]
  rw [List.getElem?_append_right (by omega)] at h
  rw [show r+1-A.length=(r-A.length)+1 by omega,List.getElem?_cons_succ]
  exact h
theorem past_inj {k r r':Nat} (h:r≠r'):past k r≠past k r':=by unfold past;split<;>split<;>omega
theorem Sat.dropAt {E:Env} {A B:Nums} {x:Num} {rA rB:List Rg} {g0:Rg} {w:World} (hl:A.length=rA.length) (h:Sat E (A++x::B) (rA++g0::rB) w) (hc:∀ g∈rA++rB,∀ c∈g.cells,∀ v,c.den (A++x::B)=some v→c.den (A++B)=some v) (hob:∀ g∈rA++rB,g.ob=none):Sat E (A++B) (rA++rB) w:=by
 have gs:∀ {r:Nat} {g:Rg},(rA++rB)[r]?=some g→(rA++g0::rB)[past A.length r]?=some g:=fun h=>by rw [hl];exact past_get h
 have ns:∀ {r:Nat} {p:Num},(A++B)[r]?=some p→(A++x::B)[past A.length r]?=some p:=fun h=>past_get h
 refine ⟨by have:=h.len;simp at this ⊢;omega,fun r p hp=>h.lt _ p (ns hp),fun r g p hg hp j c hj=>?_,fun r g p hg hp=>h.ext _ g p (gs hg) (ns hp),fun r g p hg hp=>h.room _ g p (gs hg) (ns hp),
  fun r r' g g' p p' hg hp hg' hp' ho hne=>h.disj _ _ g g' p p' (gs hg) (ns hp) (gs hg') (ns hp') ho (past_inj hne),fun r g p ob hg hp ho=>?_,fun r r' g g' p p' hg hp hg' hp' ho _ _=>?_,h.imm,fun r g p hg hp=>h.imd _ g p (gs hg) (ns hp),fun r g p hg hp=>h.dd _ g p (gs hg) (ns hp),h.dlt,h.loc,h.res,h.chg,fun r g p hg hp=>h.foot _ g p (gs hg) (ns hp)⟩
 ·obtain ⟨v,h1,h2⟩:=h.cell _ g p (gs hg) (ns hp) j c hj
  exact ⟨v,hc g (List.mem_of_getElem? hg) c (List.mem_of_getElem? hj) v h1,h2⟩
 ·rw [hob g (List.mem_of_getElem? hg)] at ho;cases ho
 ·rw [hob g (List.mem_of_getElem? hg)] at ho;cases ho
theorem X.dropAt {E:Ctx} {k:List It} (h0:E.N0=[]) {f:Fr} (f':Fr) (rA:List Rg) {g0:Rg} {rB:List Rg} (hs:∀ (A:Nums) x B,A.length=rA.length→Sh (A++x::B) (A++B) f f') (hc:∀ g∈rA++rB,∀ c∈g.cells,∀ (N N':Nums) (v:Value),c.den N=some v→c.den N'=some v) (hob:∀ g∈rA++rB,g.ob=none) (h:X E k ⟨f',rA++rB⟩):X E k ⟨f,rA++g0::rB⟩:=by
 refine X.conv fun N a w hN hf hS=>?_
 have hlen:=hS.len
 obtain ⟨A,R,rfl,hA⟩:∃ A R,N=A++R∧A.length=rA.length:=⟨N.take rA.length,N.drop rA.length,(List.take_append_drop _ _).symm,by simp at hlen ⊢;omega⟩
 cases R with
 | nil=>simp at hlen;omega
 | cons x B=>exact ⟨E,⟨f',rA++rB⟩,rfl,rfl,rfl,rfl,⟨A++B,by rw [h0];exact fun r p h=>by simp at h,hf.sh (hs A x B hA),Sat.dropAt hA hS (fun g hg c hc' v=>hc g hg c hc' _ _ v) hob⟩,h⟩
theorem len3 {α:Type} {l:List α} (h:l.length=3):∃ a b c,l=[a,b,c]:=by
 match l,h with
 | [a,b,c],_=>exact ⟨a,b,c,rfl⟩
def PtIn (b o:Nat) (L:List (Int × Int)) (w:World):Prop:=∀ j,j<L.length→w.cell? ⟨b,o+j*2,none⟩=some (.int .u64 L[j]!.1)∧w.cell? ⟨b,o+j*2+1,none⟩=some (.int .u8 L[j]!.2)
theorem PtIn.of {b o:Nat} {L:List (Int × Int)} {w:World} (h:HoldsK ptC 2 w b o L.toArray):PtIn b o L w:=fun j hj=>by
 have h1:=(h (j*2) (by rw [size_flatK];simp;omega)).1
 have h2:=(h (j*2+1) (by rw [size_flatK];simp;omega)).1
 rw [get_flatK _ _ _ _ (by simp;omega)] at h1 h2
 rw [show j*2 / 2=j by omega,show j*2 % 2=0 by omega] at h1
 rw [show (j*2+1) / 2=j by omega,show (j*2+1) % 2=1 by omega] at h2
 have e:L.toArray[j]! = L[j]! := by simp
 rw [e] at h1 h2
 exact ⟨h1,h2⟩
theorem PtIn.stays {b o:Nat} {L:List (Int × Int)} {w w':World} (h:PtIn b o L w) (hc:Chg (fun _ _=>False) w w'):PtIn b o L w':=fun j hj=>⟨cell_of_chg hc (fun h=>h) (h j hj).1,cell_of_chg hc (fun h=>h) (h j hj).2⟩
theorem keep1_ok (b o m c i b3 o3 b7 o7:Nat) (p:Option Addr) (kh:Int) (L:List (Int × Int)) (w:World) (hp:p=some ⟨b,o,none⟩) (hm:L.length=m) (hi:i<m) (hbig:m<4611686018427387904) (hL:PtIn b o L w)
  (h3:w.cell? ⟨b3,o3,none⟩=some (.slice p m c)) (h7:w.cell? ⟨b7,o7,none⟩=some (.int .u64 kh)) :
  Calls Tryz.prog 102 #[.int .i64 i,.pointer (some ⟨b3,o3,none⟩),.pointer (some ⟨b7,o7,none⟩)] w fun e w'=>e=.returned (.bool (decide (kh≤L[i]!.1)))∧Chg (fun _ _=>False) w w':=by
 obtain ⟨h,hh⟩:∃ h,h=L[i]!.1:=⟨_,rfl⟩
 rw [←hh]
 refine X.begin (rg:=[]) (N:=[]) (ss:=[.int .i64 (.nat i),.ext b3 o3 0,.ext b7 o7 0]) Tryz.func102 rfl B102_ok rfl rfl Sat.std0 ?_
 obtain ⟨oi,hoi⟩:∃ q,q=o+i*2:=⟨_,rfl⟩
 have e3:elsewhere [] [] w b3 (o3+0)=some (.slice p m c):=by rw [els_old];exact h3
 have e7:elsewhere [] [] w b7 (o7+0)=some (.int .u64 kh):=by rw [els_old];exact h7
 have ei:elsewhere [] [] w b (oi+0)=some (.int .u64 h):=by rw [els_old,hoi,hh];exact (hL i (by omega)).1
 refine X.goP ([(5,.slv p m c),(7,.ext b oi 0),(9,.int .u64 (.v h)),(10,.int .u64 (.v kh))]) T102_ok 400 _ rfl Tryz.results102 (fun pr fin hpr hfin=>?_)
 conv=>cbv
 refine ⟨hpr _ (ValOk.im1 rfl Tryz.isAgg29 (fun _=>rfl) fun _=>e7),hpr _ (ValOk.im1 rfl Tryz.isAgg29 (fun _=>rfl) fun _=>ei),hpr _ (ValOk.at (z:=i) rfl rfl (fun _=>rfl) Tryz.underlying135 Tryz.sizeOf148 (fun _=>hi) hp hoi),hpr _ (ValOk.im1 rfl Tryz.isAgg135 (fun _=>rfl) fun _=>e3),hfin _ _ ?_⟩
 refine X.done T102_ok rfl (fun N w' v hN hS hv=>⟨fin_bool hv ?_,hS.chg.mono fun k o _ h=>inR_nil h⟩)
 simp only [SB.den,SI.den]
 exact decide_eq_decide.2 Iff.rfl
def atP (L:List (Int × Int)) (kh:Int):Nat:=(List.range L.length).countP fun i=>!decide (kh≤L[i]!.1)
theorem atP_le (L:List (Int × Int)) (kh:Int):atP L kh≤L.length:=by
 have:=List.countP_le_length (p:=fun i=>!decide (kh≤L[i]!.1)) (l:=List.range L.length)
 simpa [atP] using this
def Rise (L:List (Int × Int)):Prop:=∀ a b,a≤b→b<L.length→L[a]!.1≤L[b]!.1
theorem search_ok (b o m c b3 o3 b7 o7:Nat) (p:Option Addr) (kh:Int) (L:List (Int × Int)) (w:World) (hp:0<m→p=some ⟨b,o,none⟩) (hm:L.length=m) (hbig:m<4611686018427387904) (hL:PtIn b o L w) (hR:Rise L)
  (h3:w.cell? ⟨b3,o3,none⟩=some (.slice p m c)) (h7:w.cell? ⟨b7,o7,none⟩=some (.int .u64 kh)) :
  Calls Tryz.prog 101 #[.int .i64 m,.func (.func 102) #[] #[.pointer (some ⟨b3,o3,none⟩),.pointer (some ⟨b7,o7,none⟩)]] w fun e w'=>e=.returned (.int .i64 (atP L kh))∧Chg (fun _ _=>False) w w':=by
 have key:=Any.sort_Search Tryz.searchL 102 #[.pointer (some ⟨b3,o3,none⟩),.pointer (some ⟨b7,o7,none⟩)] m (fun i=>decide (kh≤L[i]!.1)) w (enters_of Tryz.func102 (by kernel_rfl) rfl) hbig (fun q os i hi=>by
  have hc:Chg (fun _ _=>False) w (Go.Sort.grow (w.drewN q) os):=(Chg.drewN q).trans (chg_grow _ os) fun _ _ _ h=>h
  exact (keep1_ok b o m c i b3 o3 b7 o7 p kh L _ (hp (by omega)) hm hi hbig (hL.stays hc) (cell_of_chg hc (fun h=>h) h3) (cell_of_chg hc (fun h=>h) h7)).mono fun _ _ ⟨h1,h2⟩=>⟨h1,h2.grown⟩) (fun a b hab hb ha=>by
  have:=hR a b hab (by omega)
  have ha:kh≤L[a]!.1:=of_decide_eq_true ha
  exact decide_eq_true (by omega))
 refine Calls.mono key fun e w' ⟨he,q,os,hw⟩=>⟨?_,?_⟩
 ·rw [he,atP,hm]
 ·rw [hw]
  exact (Chg.drewN q).trans (chg_grow _ os) fun _ _ _ h=>h
def keepGo (R:Nat→Int) (many:Int):Nat→Nat→List Int→List Int
 | 0,_,out=>out
 | k+1,i,out=>if many≤out.length then out else keepGo R many k (i+1) (if R i∈out then out else out++[R i])
def nodeAt (L:List (Int × Int)) (s i:Nat):Int:=L[(s+i) % L.length]!.2
def keepL (L:List (Int × Int)) (key many:Int):List Int:=keepGo (nodeAt L (atP L (keyZ key))) many L.length 0 []
def BytRet (l:List Int) (w:World) (e:Ending) (w':World):Prop :=
 ∃ p c,e=.returned (.slice p l.length c)∧l.length≤c∧(l=[]∧p=none∧c=0∨l≠[]∧∃ b o,p=some ⟨b,o,none⟩∧w.heap.size≤b∧AtA w' b o l.toArray)∧Chg (fun _ _=>False) w w'
def bytL (l:List Int):List SV:=l.map fun x=>.int .u8 (.v x)
def outV (l:List Int):SV:=match l with | []=>.raw (.slice none 0 0) | _::_=>.osl 3 0 l.length 1 none
def outR (l:List Int):List Rg:=match l with | []=>[] | _::_=>[⟨true,bytL l,none⟩]
theorem outV_pos {l:List Int} (h:l≠[]):outV l=.osl 3 0 l.length 1 none:=by cases l with | nil=>exact absurd rfl h | cons=>rfl
theorem outR_pos {l:List Int} (h:l≠[]):outR l=[⟨true,bytL l,none⟩]:=by cases l with | nil=>exact absurd rfl h | cons=>rfl
theorem bytL_bd {l:List Int} {m:Nat}:(bytL l).all (bd m)=true:=List.all_eq_true.2 fun c hc=>by
 obtain ⟨x,_,rfl⟩:=List.mem_map.1 hc;rfl
theorem bytL_den {l:List Int} {c:SV} {N N':Nums} {v:Value} (h:c∈bytL l) (hv:c.den N=some v):c.den N'=some v:=by
 obtain ⟨x,_,rfl⟩:=List.mem_map.1 h;exact hv
theorem bytL_len (l:List Int):(bytL l).length=l.length:=by simp [bytL]
def hadB (l:List Int) (x:Nat):Bool:=decide ((x:Int)∈l)
def hadL (l:List Int):List SV:=(List.range 256).map fun x=>.bool (.v (hadB l x))
theorem hadL_len (l:List Int):(hadL l).length=256:=by simp [hadL]
theorem hadL_at (l:List Int) {x:Nat} (h:x<256):(hadL l)[x]?=some (.bool (.v (hadB l x))):=by simp [hadL,h]
theorem hadL_get {l:List Int} {x:Nat} {c:SV} (h:(hadL l)[x]?=some c):x<256∧c=.bool (.v (hadB l x)):=by
 have hx:x<256:=by
  have:=(List.getElem?_eq_some_iff.1 h).1
  rwa [hadL_len] at this
 rw [hadL_at l hx] at h
 exact ⟨hx,(Option.some.inj h).symm⟩
theorem hadL_bd {l:List Int} {m:Nat}:(hadL l).all (bd m)=true:=List.all_eq_true.2 fun c hc=>by
 obtain ⟨x,_,rfl⟩:=List.mem_map.1 hc;rfl
theorem hadL_den {l:List Int} {c:SV} {N N':Nums} {v:Value} (h:c∈hadL l) (hv:c.den N=some v):c.den N'=some v:=by
 obtain ⟨x,_,rfl⟩:=List.mem_map.1 h;exact hv
structure KG (m:Nat) (R:Nat→Int) (many:Int) (F:List Int) (i:Nat) (out:List Int):Prop where
 le:i≤m
 go:keepGo R many (m-i) i out=F
 len:out.length≤i
theorem keepers_ok (b o m c:Nat) (p:Option Addr) (L:List (Int × Int)) (key many:Int) (w:World) (hp:0<m→p=some ⟨b,o,none⟩) (hm:L.length=m) (hle:m≤8000) (hL:PtIn b o L w) (hR:Rise L) (hN:∀ x∈L,0≤x.2∧x.2<256) :
  Calls Tryz.prog 88 #[.slice p m c,.int .u8 key,.int .i64 many] w (BytRet (keepL L key many) w):=by
 obtain ⟨kh,hkh⟩:∃ k,k=keyZ key:=⟨_,rfl⟩
 obtain ⟨s0,hs0⟩:∃ s,s=atP L kh:=⟨_,rfl⟩
 have hs0m:s0≤m:=by rw [hs0,←hm];exact atP_le L kh
 obtain ⟨R,hRR⟩:∃ R,R=nodeAt L s0:=⟨_,rfl⟩
 obtain ⟨F,hF⟩:∃ F,F=keepL L key many:=⟨_,rfl⟩
 have hFg:keepGo R many m 0 []=F:=by rw [hF,keepL,←hkh,←hs0,←hRR,hm]
 rw [←hF]
 refine X.begin (rg:=[]) (N:=[]) (ss:=[.slv p m c,.int .u8 (.v key),.int .i64 (.v many)]) Tryz.func88 rfl B88_ok rfl rfl Sat.std0 ?_
 obtain ⟨im,him⟩:∃ im,im=elsewhere [] [] w:=⟨_,rfl⟩
 show X (mkE Tryz.prog Tryz.f88 (BytRet F w) w (InR [] []) (elsewhere [] [] w) (fun _ _=>False) (fun _=>True) [] B88) _ _
 rw [←him]
 refine X.goP ([(14,.int .u64 (.v kh))]) T88_ok 400 _ rfl Tryz.results88 (fun pr fin hpr hfin=>?_)
 conv=>cbv
 refine ⟨hpr _ (.of Tryz.call100 [.int .u8 key] (.int .u64 kh) (fun _=>rfl) (fun _=>rfl) fun _ w1 _=>by rw [hkh];exact key_ok key w1),hfin _ _ ?_⟩
 refine X.call rfl rfl rfl rfl Tryz.call101 (fun N w1 args hN1 hS ha=>?_)
 obtain ⟨q3,hq3⟩:∃ p,N[0]?=some p:=⟨_,List.getElem?_eq_getElem (by rw [hS.len];simp)⟩
 obtain ⟨q7,hq7⟩:∃ p,N[1]?=some p:=⟨_,List.getElem?_eq_getElem (by rw [hS.len];simp)⟩
 obtain ⟨_,e3,c3⟩:=hS.cell 0 _ q3 rfl hq3 0 _ rfl
 obtain ⟨_,e7,c7⟩:=hS.cell 1 _ q7 rfl hq7 0 _ rfl
 simp only [SV.den,SI.den,Option.some.injEq] at e3 e7
 subst e3 e7
 have ha:args=[.int .i64 m,.func (.func 102) #[] #[.pointer (some ⟨q3.b,q3.o+0,none⟩),.pointer (some ⟨q7.b,q7.o+0,none⟩)]]:=by
  simp only [SV.denL,SV.den,SI.den,hq3,hq7] at ha
  exact (Option.some.inj ha).symm
 rw [ha]
 refine (search_ok b o m c _ _ _ _ p kh L w1 hp hm (by omega) (hL.stays hS.chg.none) hR c3 c7).mono fun e w2 ⟨he,hch⟩=>⟨_,he,?_⟩
 rw [←hs0]
 refine Goes.same hN1 hS hch (r:=.int .i64 (.nat s0)) rfl rfl ?_
 clear ha c3 c7 hq3 hq7 hS hN1
 refine X.go T88_ok 400 _ rfl Tryz.results88 ?_
 conv=>arg 2;cbv
 refine X.recell 2 ⟨true,List.replicate 256 (.bool (.lit false)),none⟩ (hadL []) rfl (by rw [hadL_len];rfl) (fun N _ j c c' h1 h2 v hv=>?_) ?_
 ·obtain ⟨_,rfl⟩:=hadL_get h2
  have:c=.bool (.lit false):=by
   have:=List.mem_of_getElem? h1
   simpa using (List.mem_replicate.1 this).2
  subst this
  rw [←hv]
  simp [SV.den,SB.den,hadB]
 show X (mkE Tryz.prog Tryz.f88 (BytRet F w) w (InR [] []) im (fun _ _=>False) (fun _=>True) [] B88) _ ⟨_,[⟨true,[.slv p m c],none⟩,⟨true,[.int .u64 (.v kh)],none⟩,⟨true,hadL [],none⟩]⟩
 refine X.loop (fun _:{g:Nat × List Int // KG m R many F g.1 g.2}=>mkE Tryz.prog Tryz.f88 (BytRet F w) w (InR [] []) im (fun _ _=>False) (fun _=>True) [] B88)
  (fun g=>⟨[(2,.val (.int .i64 (.v many))),(3,.val (.own 0 0)),(8,.val (.int .i64 (.nat s0))),(9,.val (.own 2 0)),(10,.val (outV g.1.2)),(20,.val (.int .i64 (.nat m))),(21,.val (.int .i64 (.nat g.1.1)))],⟨true,[.slv p m c],none⟩::⟨true,[.int .u64 (.v kh)],none⟩::⟨true,hadL g.1.2,none⟩::outR g.1.2⟩) (fun g=>m-g.1.1) (fun _=>⟨rfl,rfl,rfl,rfl⟩) (fun N ac w' hN hf hS=>⟨⟨(0,[]),⟨Nat.zero_le _,hFg,Nat.le_refl _⟩⟩,?_⟩) (fun g q hq=>?_)
 ·show At (mkE Tryz.prog Tryz.f88 (BytRet F w) w (InR [] []) im (fun _ _=>False) (fun _=>True) [] B88) ⟨[(2,.val (.int .i64 (.v many))),(3,.val (.own 0 0)),(8,.val (.int .i64 (.nat s0))),(9,.val (.own 2 0)),(10,.val (.raw (.slice none 0 0))),(20,.val (.int .i64 (.nat m))),(21,.val (.int .i64 (.nat 0)))],[⟨true,[.slv p m c],none⟩,⟨true,[.int .u64 (.v kh)],none⟩,⟨true,hadL [],none⟩]⟩ ac w'
  exact At.again hf hS (by repeat first | exact trivial | refine ⟨⟨_,rfl,.inl ⟨rfl,rfl⟩⟩,?_⟩ | refine ⟨⟨_,rfl,.inr ⟨_,rfl,rfl⟩⟩,?_⟩ | refine ⟨⟨_,rfl,.inr ⟨_,rfl,by simp (disch:=omega) [SV.den,SI.den,wrapU,wrapD]<;>omega⟩⟩,?_⟩) ⟨fun h=>h,SubC.refl rfl,rfl,fun h=>h,SubC.refl rfl,rfl,fun h=>h,SubC.refl hadL_bd,rfl,trivial⟩
 obtain ⟨⟨i,l⟩,him1,hgo,hlen⟩:=g
 simp only at him1 hgo hlen
 show X (mkE Tryz.prog Tryz.f88 (BytRet F w) w (InR [] []) im (fun _ _=>False) (fun _=>True) [] B88) _ ⟨[(2,.val (.int .i64 (.v many))),(3,.val (.own 0 0)),(8,.val (.int .i64 (.nat s0))),(9,.val (.own 2 0)),(10,.val (outV l)),(20,.val (.int .i64 (.nat m))),(21,.val (.int .i64 (.nat i)))],⟨true,[.slv p m c],none⟩::⟨true,[.int .u64 (.v kh)],none⟩::⟨true,hadL l,none⟩::outR l⟩
 obtain ⟨hd,hhd⟩:∃ h,h=hadL l:=⟨_,rfl⟩
 have hbd:∀ m,hd.all (bd m)=true:=fun m=>by rw [hhd];exact hadL_bd
 rw [←hhd]
 by_cases hz:l=[]
 ·skip
  rw [hz] at hhd hgo hlen ⊢
  show X (mkE Tryz.prog Tryz.f88 (BytRet F w) w (InR [] []) im (fun _ _=>False) (fun _=>True) [] B88) _ ⟨[(2,.val (.int .i64 (.v many))),(3,.val (.own 0 0)),(8,.val (.int .i64 (.nat s0))),(9,.val (.own 2 0)),(10,.val (.raw (.slice none 0 0))),(20,.val (.int .i64 (.nat m))),(21,.val (.int .i64 (.nat i)))],[⟨true,[.slv p m c],none⟩,⟨true,[.int .u64 (.v kh)],none⟩,⟨true,hd,none⟩]⟩
  refine X.go T88_ok 400 _ rfl Tryz.results88 ?_
  conv=>arg 2;cbv
  refine X.cond rfl (fun hlt=>?_) (fun hge=>?_)
  ·simp only [SB.T,SI.den] at hlt
   have hlt:i<m:=by omega
   have hmi:m-i=(m-(i+1))+1:=by omega
   rw [hmi,keepGo] at hgo
   refine X.go T88_ok 400 _ rfl Tryz.results88 ?_
   conv=>arg 2;cbv
   refine X.cond rfl (fun hfull=>?_) (fun hroom=>?_)
   ·simp only [SB.T,SI.den] at hfull
    have hfull:many≤(0:Int):=hfull
    refine X.go T88_ok 400 _ rfl Tryz.results88 ?_
    conv=>arg 2;cbv
    have hFl:F=[]:=by rw [if_pos (by simpa using hfull)] at hgo;exact hgo.symm
    refine X.done T88_ok rfl (fun N w' v hN hS hv=>?_)
    simp [resV,SV.den,one?] at hv
    exact ⟨none,0,by rw [←hv,hFl];rfl,by rw [hFl];exact Nat.le_refl _,.inl ⟨hFl,rfl,rfl⟩,hS.chg.none⟩
   ·simp only [SB.F,SI.den] at hroom
    have hroom:¬many≤(0:Int):=fun h=>absurd h (by have hr:=hroom;simpa using hr)
    rw [if_neg (by simpa using hroom)] at hgo
    obtain ⟨z,hz1⟩:∃ z,z=(s0+i) % m:=⟨_,rfl⟩
    have hzm:z<m:=by rw [hz1];exact Nat.mod_lt _ (by omega)
    obtain ⟨oz,hoz⟩:∃ q,q=o+z*2:=⟨_,rfl⟩
    have hRi:R i=L[z]!.2:=by rw [hRR,nodeAt,hm,hz1]
    obtain ⟨x,hx⟩:∃ x,x=R i:=⟨_,rfl⟩
    obtain ⟨xz,hxz,hx256⟩:∃ y:Nat,x=(y:Int)∧y<256:=by
     have hmem:L[z]! ∈ L:=by rw [getElem!_pos L z (by omega)];exact List.getElem_mem _
     have:=hN _ hmem
     exact ⟨x.toNat,by omega,by omega⟩
    rw [←hx] at hgo
    have hix:im b (oz+1)=some (.int .u8 x):=by rw [him,els_old,hoz,hx,hRi];exact (hL z (by omega)).2
    obtain ⟨t,ht⟩:∃ t,t=hadB [] xz:=⟨_,rfl⟩
    have hdx:hd[xz]?=some (.bool (.v t)):=by rw [hhd,ht];exact hadL_at _ hx256
    refine X.goP ([(34,.int .i64 (.nat z)),(35,.ext b oz 0),(37,.int .u8 (.v x)),(39,.own 2 xz),(40,.bool (.v t))]) T88_ok 400 _ rfl Tryz.results88 (fun pr fin hpr hfin=>?_)
    conv=>cbv
    refine ⟨hpr _ (vk_load1 rfl Tryz.isAgg4 rfl hdx),hpr _ (vk_arr (z:=xz) rfl rfl (fun _=>hxz) Tryz.underlying153 Tryz.sizeOf4 hx256 (by omega) (Nat.lt_of_sub_eq_succ rfl)),hpr _ (ValOk.im1 rfl Tryz.isAgg5 (fun _=>rfl) fun _=>hix),hpr _ (ValOk.at (z:=z) rfl rfl (fun _=>rfl) Tryz.underlying135 Tryz.sizeOf148 (fun _=>hzm) (hp (by omega)) hoz),hpr _ (vk_rem rfl rfl (fun _=>by simp (disch:=omega) only [SI.den,wrapN];exact ⟨by omega,by rw [hz1];rfl⟩)),hfin _ _ ?_⟩
    refine X.cond rfl (fun hnew=>?_) (fun hold=>?_)
    ·simp only [SB.T,SB.F] at hnew
     have htf:t=false:=by simpa using hnew
     have hnm:¬x∈([]:List Int):=by simp
     rw [if_neg hnm] at hgo
     refine X.goP ([(43,.own 2 xz)]) T88_ok 4 _ rfl Tryz.results88 (fun pr fin hpr hfin=>?_)
     conv=>cbv
     refine ⟨hpr _ (vk_arr (z:=xz) rfl rfl (fun _=>hxz) Tryz.underlying153 Tryz.sizeOf4 hx256 (by omega) (Nat.lt_of_sub_eq_succ rfl)),hfin _ _ ?_⟩
     have hdl:hd.length=256:=by rw [hhd];exact hadL_len _
     refine X.opEq T88_ok (oe_store (v:=.bool (.lit true)) (g:=⟨true,hd,none⟩) (cs':=setRow hd xz [.bool (.lit true)]) rfl rfl rfl rfl rfl rfl rfl rfl rfl rfl (by show xz+1≤hd.length;omega) rfl rfl) ?_
     refine X.recell 2 ⟨true,setRow hd xz [.bool (.lit true)],none⟩ (hadL ([]++[x])) rfl (by rw [hadL_len,setRow_length _ _ _ (by omega)];simp;omega) (fun N _ j c c' h1 h2 v hv=>?_) ?_
     ·obtain ⟨hj,rfl⟩:=hadL_get h2
      simp only at h1
      rw [setRow_at _ _ _ _ (by simp;omega)] at h1
      by_cases e:j=xz
      ·subst e
       rw [if_pos (by simp),Nat.sub_self] at h1
       obtain rfl:c=.bool (.lit true):=(Option.some.inj h1).symm
       rw [←hv]
       simp [SV.den,SB.den,hadB,hxz]
      ·rw [if_neg (by simp;omega),hhd,hadL_at _ hj] at h1
       obtain rfl:=(Option.some.inj h1).symm
       have hne:¬(j:Int)=x:=by omega
       rw [←hv]
       simp [SV.den,SB.den,hadB,hne]
     obtain ⟨hd2,hhd2⟩:∃ h,h=hadL ([]++[x]):=⟨_,rfl⟩
     rw [←hhd2]
     have hbd2:∀ m,hd2.all (bd m)=true:=fun m=>by rw [hhd2];exact hadL_bd
     show X (mkE Tryz.prog Tryz.f88 (BytRet F w) w (InR [] []) im (fun _ _=>False) (fun _=>True) [] B88) _ ⟨_,[⟨true,[.slv p m c],none⟩,⟨true,[.int .u64 (.v kh)],none⟩,⟨true,hd2,none⟩]⟩
     refine X.go T88_ok 5 _ rfl Tryz.results88 ?_
     conv=>arg 2;cbv
     refine X.opEq (T:=T88) T88_ok (opE_append (te:=ti5) (new:=[.int .u8 (.v x)]) (m:=1) rfl rfl rfl rfl rfl rfl rfl rfl (appSrc_row (g:=⟨true,[.int .u8 (.v x)],none⟩) rfl rfl rfl rfl) (appV_nil (by decide) (appOk_ok (by decide) rfl rfl rfl (by decide) (by decide))) rfl) ?_
     refine X.go T88_ok 400 _ rfl Tryz.results88 ?_
     conv=>arg 2;cbv
     refine X.less [2,3,8,9,10,20,21] ?_
     refine X.dropAt rfl [(21,.val (.int .i64 (.wrap .i64 (.add (.nat i) (.lit 1))))),(10,.val (.osl 3 0 1 1 none)),(2,.val (.int .i64 (.v many))),(3,.val (.own 0 0)),(8,.val (.int .i64 (.nat s0))),(9,.val (.own 2 0)),(20,.val (.int .i64 (.nat m)))] [⟨true,[.slv p m c],none⟩,⟨true,[.int .u64 (.v kh)],none⟩,⟨true,hd2,none⟩] (rB:=[⟨true,[.int .u8 (.v x)],none⟩]) (fun A x B hA=>by obtain ⟨a1,a2,a3,rfl⟩:=len3 hA;exact ⟨rfl,fun _ h=>h,rfl,fun _ h=>h,rfl,fun _ h=>h,rfl,fun _ h=>h,rfl,fun _ h=>h,rfl,fun _ h=>h,rfl,fun _ h=>h,trivial⟩) (fun g hg c hc N N' v hv=>?_) (fun g hg=>?_) ?_
     ·simp only [List.cons_append,List.nil_append,List.mem_cons,List.not_mem_nil,or_false] at hg
      rcases hg with rfl | rfl | rfl | rfl
      ·obtain rfl:c=.slv p m _:=List.mem_singleton.1 hc
       exact hv
      ·obtain rfl:c=.int .u64 (.v kh):=List.mem_singleton.1 hc
       exact hv
      ·exact hadL_den (by rw [←hhd2];exact hc) hv
      ·exact bytL_den (l:=[x]) hc hv
     ·simp only [List.cons_append,List.nil_append,List.mem_cons,List.not_mem_nil,or_false] at hg
      rcases hg with rfl | rfl | rfl | rfl<;>rfl
     refine X.back (fun N ac w' hN hf hS=>hq ⟨(i+1,[]++[x]),⟨by simp only;omega,hgo,by simp only [List.length_append,List.length_singleton];simp⟩⟩ ac w' (by simp only;omega) ?_)
     show At (mkE Tryz.prog Tryz.f88 (BytRet F w) w (InR [] []) im (fun _ _=>False) (fun _=>True) [] B88) ⟨[(2,.val (.int .i64 (.v many))),(3,.val (.own 0 0)),(8,.val (.int .i64 (.nat s0))),(9,.val (.own 2 0)),(10,.val (outV ([]++[x]))),(20,.val (.int .i64 (.nat m))),(21,.val (.int .i64 (.nat (i+1))))],⟨true,[.slv p m c],none⟩::⟨true,[.int .u64 (.v kh)],none⟩::⟨true,hadL ([]++[x]),none⟩::outR ([]++[x])⟩ ac w'
     rw [←hhd2]
     exact At.again hf hS (by repeat first | exact trivial | refine ⟨⟨_,rfl,.inl ⟨rfl,rfl⟩⟩,?_⟩ | refine ⟨⟨_,rfl,.inr ⟨_,rfl,rfl⟩⟩,?_⟩ | refine ⟨⟨_,rfl,.inr ⟨_,rfl,by simp (disch:=omega) [SV.den,SI.den,wrapU,wrapD]<;>omega⟩⟩,?_⟩) ⟨fun h=>h,SubC.refl rfl,rfl,fun h=>h,SubC.refl rfl,rfl,fun h=>h,SubC.refl (hbd2 _),rfl,fun h=>h,SubC.refl rfl,rfl,trivial⟩
    ·simp only [SB.T,SB.F] at hold
     have htt:t=true:=by simpa using hold
     have hmem:x∈([]:List Int):=by rw [htt] at ht;rw [hxz];simpa [hadB] using ht.symm
     exact absurd hmem (by simp)
  ·simp only [SB.F,SI.den] at hge
   have hie:m-i=0:=by omega
   refine X.go T88_ok 400 _ rfl Tryz.results88 ?_
   conv=>arg 2;cbv
   have hFl:F=[]:=by rw [hie,keepGo] at hgo;exact hgo.symm
   refine X.done T88_ok rfl (fun N w' v hN hS hv=>?_)
   simp [resV,SV.den,one?] at hv
   exact ⟨none,0,by rw [←hv,hFl];rfl,by rw [hFl];exact Nat.le_refl _,.inl ⟨hFl,rfl,rfl⟩,hS.chg.none⟩
 ·skip
  rw [outV_pos hz,outR_pos hz]
  obtain ⟨cs,hcs⟩:∃ c,c=bytL l:=⟨_,rfl⟩
  obtain ⟨ll,hll⟩:∃ q,q=l.length:=⟨_,rfl⟩
  rw [←hcs,←hll]
  rw [←hll] at hlen
  have hcl:cs.length=ll:=by rw [hcs,bytL_len,hll]
  have hcb:∀ m,cs.all (bd m)=true:=fun m=>by rw [hcs];exact bytL_bd
  have hl0:0<ll:=by rw [hll];exact List.length_pos_iff.2 hz
  refine X.go T88_ok 400 _ rfl Tryz.results88 ?_
  conv=>arg 2;cbv
  refine X.cond rfl (fun hlt=>?_) (fun hge=>?_)
  ·simp only [SB.T,SI.den] at hlt
   have hlt:i<m:=by omega
   have hmi:m-i=(m-(i+1))+1:=by omega
   rw [hmi,keepGo] at hgo
   refine X.go T88_ok 400 _ rfl Tryz.results88 ?_
   conv=>arg 2;cbv
   refine X.cond rfl (fun hfull=>?_) (fun hroom=>?_)
   ·simp only [SB.T,SI.den] at hfull
    have hfull:many≤(ll:Int):=hfull
    refine X.go T88_ok 400 _ rfl Tryz.results88 ?_
    conv=>arg 2;cbv
    have hFl:F=l:=by rw [if_pos (by omega)] at hgo;exact hgo.symm
    refine X.done T88_ok rfl (fun N w' v hN hS hv=>?_)
    obtain ⟨p4,hp4⟩:∃ p,N[3]?=some p:=⟨_,List.getElem?_eq_getElem (by rw [hS.len];simp)⟩
    have hext:=hS.ext 3 _ p4 rfl hp4 rfl
    simp only [hcl] at hext
    simp only [resV,SV.den,hp4,Num.cap,Option.some.injEq] at hv
    refine ⟨some ⟨p4.b,p4.o,none⟩,_,by rw [←hv,hFl,←hll,Nat.add_zero],by rw [hFl,←hll];simpa using hext,.inr ⟨by rw [hFl];exact hz,p4.b,p4.o,rfl,?_,fun j hj=>?_⟩,hS.chg.none⟩
    ·rcases hS.foot 3 _ p4 rfl hp4 rfl with h | h
     ·exact h
     ·exact absurd (h 0 (by omega)) (fun h=>inR_nil h)
    ·rw [hFl] at hj ⊢
     have hj:j<l.length:=by simpa using hj
     obtain ⟨v0,h1,h2⟩:=hS.cell 3 _ p4 rfl hp4 j (.int .u8 (.v l[j]!)) (by show cs[j]?=_;rw [hcs];simp [bytL,hj])
     simp only [SV.den,SI.den,Option.some.injEq] at h1
     subst h1
     exact ⟨by simpa using h2,(hS.room 3 _ p4 rfl hp4 rfl j (by omega)).2⟩
   ·simp only [SB.F,SI.den] at hroom
    have hroom:¬many≤(ll:Int):=fun h=>absurd h (by have hr:=hroom;simpa using hr)
    rw [if_neg (by omega)] at hgo
    obtain ⟨z,hz1⟩:∃ z,z=(s0+i) % m:=⟨_,rfl⟩
    have hzm:z<m:=by rw [hz1];exact Nat.mod_lt _ (by omega)
    obtain ⟨oz,hoz⟩:∃ q,q=o+z*2:=⟨_,rfl⟩
    have hRi:R i=L[z]!.2:=by rw [hRR,nodeAt,hm,hz1]
    obtain ⟨x,hx⟩:∃ x,x=R i:=⟨_,rfl⟩
    obtain ⟨xz,hxz,hx256⟩:∃ y:Nat,x=(y:Int)∧y<256:=by
     have hmem:L[z]! ∈ L:=by rw [getElem!_pos L z (by omega)];exact List.getElem_mem _
     have:=hN _ hmem
     exact ⟨x.toNat,by omega,by omega⟩
    rw [←hx] at hgo
    have hix:im b (oz+1)=some (.int .u8 x):=by rw [him,els_old,hoz,hx,hRi];exact (hL z (by omega)).2
    obtain ⟨t,ht⟩:∃ t,t=hadB l xz:=⟨_,rfl⟩
    have hdx:hd[xz]?=some (.bool (.v t)):=by rw [hhd,ht];exact hadL_at _ hx256
    refine X.goP ([(34,.int .i64 (.nat z)),(35,.ext b oz 0),(37,.int .u8 (.v x)),(39,.own 2 xz),(40,.bool (.v t))]) T88_ok 400 _ rfl Tryz.results88 (fun pr fin hpr hfin=>?_)
    conv=>cbv
    refine ⟨hpr _ (vk_load1 rfl Tryz.isAgg4 rfl hdx),hpr _ (vk_arr (z:=xz) rfl rfl (fun _=>hxz) Tryz.underlying153 Tryz.sizeOf4 hx256 (by omega) (Nat.lt_of_sub_eq_succ rfl)),hpr _ (ValOk.im1 rfl Tryz.isAgg5 (fun _=>rfl) fun _=>hix),hpr _ (ValOk.at (z:=z) rfl rfl (fun _=>rfl) Tryz.underlying135 Tryz.sizeOf148 (fun _=>hzm) (hp (by omega)) hoz),hpr _ (vk_rem rfl rfl (fun _=>by simp (disch:=omega) only [SI.den,wrapN];exact ⟨by omega,by rw [hz1];rfl⟩)),hfin _ _ ?_⟩
    refine X.cond rfl (fun hnew=>?_) (fun hold=>?_)
    ·simp only [SB.T,SB.F] at hnew
     have htf:t=false:=by simpa using hnew
     have hnm:¬x∈(l:List Int):=by rw [htf] at ht;rw [hxz];simpa [hadB] using ht.symm
     rw [if_neg hnm] at hgo
     refine X.goP ([(43,.own 2 xz)]) T88_ok 4 _ rfl Tryz.results88 (fun pr fin hpr hfin=>?_)
     conv=>cbv
     refine ⟨hpr _ (vk_arr (z:=xz) rfl rfl (fun _=>hxz) Tryz.underlying153 Tryz.sizeOf4 hx256 (by omega) (Nat.lt_of_sub_eq_succ rfl)),hfin _ _ ?_⟩
     have hdl:hd.length=256:=by rw [hhd];exact hadL_len _
     refine X.opEq T88_ok (oe_store (v:=.bool (.lit true)) (g:=⟨true,hd,none⟩) (cs':=setRow hd xz [.bool (.lit true)]) rfl rfl rfl rfl rfl rfl rfl rfl rfl rfl (by show xz+1≤hd.length;omega) rfl rfl) ?_
     refine X.recell 2 ⟨true,setRow hd xz [.bool (.lit true)],none⟩ (hadL (l++[x])) rfl (by rw [hadL_len,setRow_length _ _ _ (by omega)];simp;omega) (fun N _ j c c' h1 h2 v hv=>?_) ?_
     ·obtain ⟨hj,rfl⟩:=hadL_get h2
      simp only at h1
      rw [setRow_at _ _ _ _ (by simp;omega)] at h1
      by_cases e:j=xz
      ·subst e
       rw [if_pos (by simp),Nat.sub_self] at h1
       obtain rfl:c=.bool (.lit true):=(Option.some.inj h1).symm
       rw [←hv]
       simp [SV.den,SB.den,hadB,hxz]
      ·rw [if_neg (by simp;omega),hhd,hadL_at _ hj] at h1
       obtain rfl:=(Option.some.inj h1).symm
       have hne:¬(j:Int)=x:=by omega
       rw [←hv]
       simp [SV.den,SB.den,hadB,hne]
     obtain ⟨hd2,hhd2⟩:∃ h,h=hadL (l++[x]):=⟨_,rfl⟩
     rw [←hhd2]
     have hbd2:∀ m,hd2.all (bd m)=true:=fun m=>by rw [hhd2];exact hadL_bd
     show X (mkE Tryz.prog Tryz.f88 (BytRet F w) w (InR [] []) im (fun _ _=>False) (fun _=>True) [] B88) _ ⟨_,[⟨true,[.slv p m c],none⟩,⟨true,[.int .u64 (.v kh)],none⟩,⟨true,hd2,none⟩,⟨true,cs,none⟩]⟩
     refine X.go T88_ok 5 _ rfl Tryz.results88 ?_
     conv=>arg 2;cbv
     refine X.opEq (T:=T88) T88_ok (opE_append (te:=ti5) (new:=[.int .u8 (.v x)]) (m:=1) rfl rfl rfl rfl rfl rfl rfl rfl (appSrc_row (g:=⟨true,[.int .u8 (.v x)],none⟩) rfl rfl rfl rfl) (appV_hid (te:=ti5) (cs:=cs) rfl (by show cs.length=ll*1;omega) (by decide) (appOk_ok (by decide) rfl rfl rfl (by show (2*(ll+1)+256)*1≤_;omega) (by omega))) rfl) ?_
     obtain ⟨cs2,hcs2⟩:∃ c,c=cs++[.int .u8 (.v x)]:=⟨_,rfl⟩
     rw [←hcs2]
     have hc2:cs2=bytL (l++[x]):=by rw [hcs2,hcs];simp [bytL]
     refine X.go T88_ok 400 _ rfl Tryz.results88 ?_
     conv=>arg 2;cbv
     refine X.less [2,3,8,9,10,20,21] ?_
     refine X.dropAt rfl [(21,.val (.int .i64 (.wrap .i64 (.add (.nat i) (.lit 1))))),(10,.val (.osl 4 0 (ll+1) 1 none)),(2,.val (.int .i64 (.v many))),(3,.val (.own 0 0)),(8,.val (.int .i64 (.nat s0))),(9,.val (.own 2 0)),(20,.val (.int .i64 (.nat m)))] [⟨true,[.slv p m c],none⟩,⟨true,[.int .u64 (.v kh)],none⟩,⟨true,hd2,none⟩] (rB:=[⟨true,[.int .u8 (.v x)],none⟩,⟨true,cs2,none⟩]) (fun A x B hA=>by obtain ⟨a1,a2,a3,rfl⟩:=len3 hA;exact ⟨rfl,fun _ h=>h,rfl,fun _ h=>h,rfl,fun _ h=>h,rfl,fun _ h=>h,rfl,fun _ h=>h,rfl,fun _ h=>h,rfl,fun _ h=>h,trivial⟩) (fun g hg c hc N N' v hv=>?_) (fun g hg=>?_) ?_
     ·simp only [List.cons_append,List.nil_append,List.mem_cons,List.not_mem_nil,or_false] at hg
      rcases hg with rfl | rfl | rfl | rfl | rfl
      ·obtain rfl:c=.slv p m _:=List.mem_singleton.1 hc
       exact hv
      ·obtain rfl:c=.int .u64 (.v kh):=List.mem_singleton.1 hc
       exact hv
      ·exact hadL_den (by rw [←hhd2];exact hc) hv
      ·exact bytL_den (l:=[x]) hc hv
      ·exact bytL_den (l:=l++[x]) (by rw [←hc2];exact hc) hv
     ·simp only [List.cons_append,List.nil_append,List.mem_cons,List.not_mem_nil,or_false] at hg
      rcases hg with rfl | rfl | rfl | rfl | rfl<;>rfl
     refine X.dropAt rfl [(21,.val (.int .i64 (.wrap .i64 (.add (.nat i) (.lit 1))))),(10,.val (.osl 3 0 (ll+1) 1 none)),(2,.val (.int .i64 (.v many))),(3,.val (.own 0 0)),(8,.val (.int .i64 (.nat s0))),(9,.val (.own 2 0)),(20,.val (.int .i64 (.nat m)))] [⟨true,[.slv p m c],none⟩,⟨true,[.int .u64 (.v kh)],none⟩,⟨true,hd2,none⟩] (rB:=[⟨true,cs2,none⟩]) (fun A x B hA=>by obtain ⟨a1,a2,a3,rfl⟩:=len3 hA;exact ⟨rfl,fun _ h=>h,rfl,fun _ h=>h,rfl,fun _ h=>h,rfl,fun _ h=>h,rfl,fun _ h=>h,rfl,fun _ h=>h,rfl,fun _ h=>h,trivial⟩) (fun g hg c hc N N' v hv=>?_) (fun g hg=>?_) ?_
     ·simp only [List.cons_append,List.nil_append,List.mem_cons,List.not_mem_nil,or_false] at hg
      rcases hg with rfl | rfl | rfl | rfl
      ·obtain rfl:c=.slv p m _:=List.mem_singleton.1 hc
       exact hv
      ·obtain rfl:c=.int .u64 (.v kh):=List.mem_singleton.1 hc
       exact hv
      ·exact hadL_den (by rw [←hhd2];exact hc) hv
      ·exact bytL_den (l:=l++[x]) (by rw [←hc2];exact hc) hv
     ·simp only [List.cons_append,List.nil_append,List.mem_cons,List.not_mem_nil,or_false] at hg
      rcases hg with rfl | rfl | rfl | rfl<;>rfl
     refine X.back (fun N ac w' hN hf hS=>hq ⟨(i+1,l++[x]),⟨by simp only;omega,hgo,by simp only [List.length_append,List.length_singleton];omega⟩⟩ ac w' (by simp only;omega) ?_)
     show At (mkE Tryz.prog Tryz.f88 (BytRet F w) w (InR [] []) im (fun _ _=>False) (fun _=>True) [] B88) ⟨[(2,.val (.int .i64 (.v many))),(3,.val (.own 0 0)),(8,.val (.int .i64 (.nat s0))),(9,.val (.own 2 0)),(10,.val (outV (l++[x]))),(20,.val (.int .i64 (.nat m))),(21,.val (.int .i64 (.nat (i+1))))],⟨true,[.slv p m c],none⟩::⟨true,[.int .u64 (.v kh)],none⟩::⟨true,hadL (l++[x]),none⟩::outR (l++[x])⟩ ac w'
     rw [outV_pos (by simp),outR_pos (by simp),←hc2,←hhd2,List.length_append,←hll]
     have hcb2:∀ m,cs2.all (bd m)=true:=fun m=>by rw [hc2];exact bytL_bd
     exact At.again hf hS (by repeat first | exact trivial | refine ⟨⟨_,rfl,.inl ⟨rfl,rfl⟩⟩,?_⟩ | refine ⟨⟨_,rfl,.inr ⟨_,rfl,rfl⟩⟩,?_⟩ | refine ⟨⟨_,rfl,.inr ⟨_,rfl,by simp (disch:=omega) [SV.den,SI.den,wrapU,wrapD]<;>omega⟩⟩,?_⟩) ⟨fun h=>h,SubC.refl rfl,rfl,fun h=>h,SubC.refl rfl,rfl,fun h=>h,SubC.refl (hbd2 _),rfl,fun h=>h,SubC.refl (hcb2 _),rfl,trivial⟩
    ·simp only [SB.T,SB.F] at hold
     have htt:t=true:=by simpa using hold
     have hmem:x∈(l:List Int):=by rw [htt] at ht;rw [hxz];simpa [hadB] using ht.symm
     rw [if_pos hmem] at hgo
     refine X.go T88_ok 400 _ rfl Tryz.results88 ?_
     conv=>arg 2;cbv
     refine X.back (fun N ac w' hN hf hS=>hq ⟨(i+1,l),⟨by simp only;omega,hgo,by simp only;omega⟩⟩ ac w' (by simp only;omega) ?_)
     show At (mkE Tryz.prog Tryz.f88 (BytRet F w) w (InR [] []) im (fun _ _=>False) (fun _=>True) [] B88) ⟨[(2,.val (.int .i64 (.v many))),(3,.val (.own 0 0)),(8,.val (.int .i64 (.nat s0))),(9,.val (.own 2 0)),(10,.val (outV l)),(20,.val (.int .i64 (.nat m))),(21,.val (.int .i64 (.nat (i+1))))],⟨true,[.slv p m c],none⟩::⟨true,[.int .u64 (.v kh)],none⟩::⟨true,hadL l,none⟩::outR l⟩ ac w'
     rw [outV_pos hz,outR_pos hz,←hcs,←hll,←hhd]
     exact At.again hf hS (by repeat first | exact trivial | refine ⟨⟨_,rfl,.inl ⟨rfl,rfl⟩⟩,?_⟩ | refine ⟨⟨_,rfl,.inr ⟨_,rfl,rfl⟩⟩,?_⟩ | refine ⟨⟨_,rfl,.inr ⟨_,rfl,by simp (disch:=omega) [SV.den,SI.den,wrapU,wrapD]<;>omega⟩⟩,?_⟩) ⟨fun h=>h,SubC.refl rfl,rfl,fun h=>h,SubC.refl rfl,rfl,fun h=>h,SubC.refl (hbd _),rfl,fun h=>h,SubC.refl (hcb _),rfl,trivial⟩
  ·simp only [SB.F,SI.den] at hge
   have hie:m-i=0:=by omega
   refine X.go T88_ok 400 _ rfl Tryz.results88 ?_
   conv=>arg 2;cbv
   have hFl:F=l:=by rw [hie,keepGo] at hgo;exact hgo.symm
   refine X.done T88_ok rfl (fun N w' v hN hS hv=>?_)
   obtain ⟨p4,hp4⟩:∃ p,N[3]?=some p:=⟨_,List.getElem?_eq_getElem (by rw [hS.len];simp)⟩
   have hext:=hS.ext 3 _ p4 rfl hp4 rfl
   simp only [hcl] at hext
   simp only [resV,SV.den,hp4,Num.cap,Option.some.injEq] at hv
   refine ⟨some ⟨p4.b,p4.o,none⟩,_,by rw [←hv,hFl,←hll,Nat.add_zero],by rw [hFl,←hll];simpa using hext,.inr ⟨by rw [hFl];exact hz,p4.b,p4.o,rfl,?_,fun j hj=>?_⟩,hS.chg.none⟩
   ·rcases hS.foot 3 _ p4 rfl hp4 rfl with h | h
    ·exact h
    ·exact absurd (h 0 (by omega)) (fun h=>inR_nil h)
   ·rw [hFl] at hj ⊢
    have hj:j<l.length:=by simpa using hj
    obtain ⟨v0,h1,h2⟩:=hS.cell 3 _ p4 rfl hp4 j (.int .u8 (.v l[j]!)) (by show cs[j]?=_;rw [hcs];simp [bytL,hj])
    simp only [SV.den,SI.den,Option.some.injEq] at h1
    subst h1
    exact ⟨by simpa using h2,(hS.room 3 _ p4 rfl hp4 rfl j (by omega)).2⟩
theorem pdq8_nil (k:Nat) (w:World):Calls Tryz.prog 107 #[.slice none 0 0,.int .i64 0,.int .i64 0,.int .i64 k] w fun e w'=>e=.returned (.tuple #[])∧Chg (fun _ _=>False) w w':=by
 refine X.begin (rg:=[]) (N:=[]) (ss:=[.raw (.slice none 0 0),.int .i64 (.lit 0),.int .i64 (.lit 0),.int .i64 (.nat k)]) Tryz.func107 rfl B107_ok rfl rfl Sat.std0 ?_
 refine X.goC FALL_ok true T107_ok 4000 _ rfl Tryz.results107 ?_
 conv=>arg 2;cbv
 refine X.done T107_ok rfl (fun N w' v hN hS hv=>?_)
 simp only [resV,SV.den,SV.denL,Option.some.injEq] at hv
 exact ⟨by rw [←hv],hS.chg.none⟩
theorem sort8_nil (w:World):Calls Tryz.prog 90 #[.slice none 0 0] w fun e w'=>e=.returned (.tuple #[])∧Chg (fun _ _=>False) w w':=by
 refine X.begin (rg:=[]) (N:=[]) (ss:=[.raw (.slice none 0 0)]) Tryz.func90 rfl B90_ok rfl rfl Sat.std0 ?_
 refine X.go T90_ok 400 _ rfl Tryz.results90 ?_
 conv=>arg 2;cbv
 refine X.call rfl rfl rfl rfl Tryz.call60 (fun N w1 args hN hS ha=>?_)
 have ha:args=[.int .u64 ((0:Nat):Int)]:=(Option.some.inj ha).symm
 rw [ha]
 refine Calls.mono (len_ok 0 (by omega) w1) fun e w' ⟨k,hk,he,hw⟩=>⟨_,he,?_⟩
 subst hw
 refine Goes.same hN hS (Chg.refl _ _) (r:=.int .i64 (.nat k)) rfl rfl ?_
 refine X.go T90_ok 400 _ rfl Tryz.results90 ?_
 conv=>arg 2;cbv
 refine X.call rfl rfl rfl rfl Tryz.call107 (fun N w1 args hN hS ha=>?_)
 have ha:args=[.slice none 0 0,.int .i64 0,.int .i64 0,.int .i64 k]:=(Option.some.inj ha).symm
 rw [ha]
 refine (pdq8_nil k w1).mono fun e w2 ⟨he,hc⟩=>⟨_,he,Goes.same hN hS hc (r:=.tup []) rfl rfl ?_⟩
 refine X.go T90_ok 400 _ rfl Tryz.results90 ?_
 conv=>arg 2;cbv
 refine X.over T90_ok rfl (fun N w' v hN hS hv=>?_)
 simp only [resV,SV.den,SV.denL,Option.some.injEq] at hv
 exact ⟨by rw [←hv],hS.chg.none⟩
theorem build_nil (cp:Nat) (w:World):Calls Tryz.prog 89 #[.slice none 0 cp] w (PtsRet [] w):=by
 refine X.begin (rg:=[]) (N:=[]) (ss:=[.slv none 0 cp]) Tryz.func89 rfl B89_ok rfl rfl Sat.std0 ?_
 refine X.go T89_ok 400 _ rfl Tryz.results89 ?_
 conv=>arg 2;cbv
 refine X.call rfl rfl rfl rfl Tryz.call21 (fun N w1 args hN hS ha=>?_)
 have ha:args=[.slice none 0 cp]:=(Option.some.inj ha).symm
 rw [ha]
 refine (clone8_nil cp w1).mono fun e w2 ⟨he,hc⟩=>⟨_,he,Goes.same hN hS hc (r:=.raw (.slice none 0 0)) rfl rfl ?_⟩
 refine X.go T89_ok 400 _ rfl Tryz.results89 ?_
 conv=>arg 2;cbv
 refine X.call rfl rfl rfl rfl Tryz.call90 (fun N w1 args hN hS ha=>?_)
 have ha:args=[.slice none 0 0]:=(Option.some.inj ha).symm
 rw [ha]
 refine (sort8_nil w1).mono fun e w2 ⟨he,hc⟩=>⟨_,he,Goes.same hN hS hc (r:=.tup []) rfl rfl ?_⟩
 refine X.goC FALL_ok true T89_ok 4000 _ rfl Tryz.results89 ?_
 conv=>arg 2;cbv
 refine X.call rfl rfl rfl rfl Tryz.call105 (fun N w1 args hN hS ha=>?_)
 have ha:args=[.slice none 0 0,.func (.func 106) #[] #[]]:=(Option.some.inj ha).symm
 rw [ha]
 have key:=AnyF.slices_SortFunc_none (P:=Tryz.prog) { Tryz.sortL with } none 0 (.func (.func 106) #[] #[]) w1
 refine Calls.mono key fun e w2 ⟨he,hw⟩=>⟨_,he,?_⟩
 subst hw
 refine Goes.same hN hS (Chg.refl _ _) (r:=.tup []) rfl rfl ?_
 refine X.go T89_ok 400 _ rfl Tryz.results89 ?_
 conv=>arg 2;cbv
 refine X.done T89_ok rfl (fun N w' v hN hS hv=>?_)
 simp [resV,SV.den,one?] at hv
 exact ⟨none,0,by rw [←hv];rfl,.inl rfl,hS.chg.none⟩
theorem ringP_nil:ringP #[]=[]:=by simp [ringP,ringU,ascA,srtA,Go.Lib.compactUpTo]
theorem build_ok (po:Option Addr) (n cp:Nat) (d:Array Int) (w:World) (hle:n≤1000) (hA:InB po n d w) :
  Calls Tryz.prog 89 #[.slice po n cp] w (PtsRet (ringP d) w):=by
 cases po with
 | none =>
  have h0:n=0:=by
   rcases Nat.eq_zero_or_pos n with h | h
   ·exact h
   ·obtain ⟨b,y,h1,_⟩:=hA.2 h
    cases h1
  subst h0
  have:d=#[]:=Array.size_eq_zero_iff.1 hA.1
  subst this
  rw [ringP_nil]
  exact build_nil cp w
 | some a=>exact build_pos (some a) n cp d w (by simp) hle hA
theorem ringP_perm (d:Array Int):(ringP d).Perm (ringU (ascA d)):=List.mergeSort_perm _ _
theorem ringP_len (d:Array Int):(ringP d).length≤8*d.size:=by
 rw [(ringP_perm d).length_eq,←ringTo_all,ringTo_len _ _ (Nat.le_refl _)]
 have:=ascA_size d
 omega
theorem srtA_perm (d:Array Int):(srtA d).toList.Perm d.toList:=by
 show (d.toList.mergeSort _).Perm _
 exact List.mergeSort_perm _ _
theorem ascA_mem {d:Array Int} {x:Int} (h:x∈(ascA d).toList):x∈d.toList:=by
 simp only [ascA,Go.Lib.compactUpTo,List.mem_map,List.mem_filter,List.mem_range] at h
 obtain ⟨k,⟨hk,_⟩,rfl⟩:=h
 refine (srtA_perm d).mem_iff.1 ?_
 have hk':k<(srtA d).size:=by rw [srtA_size];exact hk
 rw [getElem!_pos _ k hk']
 exact Array.getElem_mem_toList hk'
theorem ringP_node {d:Array Int} {y:Int × Int} (h:y∈ringP d):y.2∈d.toList:=by
 have h:=(ringP_perm d).mem_iff.1 h
 obtain ⟨n,hn,h⟩:=List.mem_flatMap.1 h
 obtain ⟨v,_,rfl⟩:=List.mem_map.1 h
 exact ascA_mem hn
theorem ringP_byte {d:Array Int} (hd:∀ x∈d.toList,0≤x∧x<256):∀ y∈ringP d,0≤y.2∧y.2<256:=fun _ hy=>hd _ (ringP_node hy)
theorem ringP_rise (d:Array Int):Rise (ringP d):=fun a b hab hb=>by
 have hs:(ringP d).Pairwise (fun x y=>(!ltOf cfP y x)=true):=List.pairwise_mergeSort (fun x y z h1 h2=>by
  simp only [ltP,Bool.not_eq_true',decide_eq_false_iff_not] at h1 h2 ⊢
  omega) (fun x y=>by
  simp only [ltP,Bool.or_eq_true,Bool.not_eq_true',decide_eq_false_iff_not]
  omega) _
 rcases Nat.lt_or_ge a b with h | h
 ·have:=List.pairwise_iff_getElem.1 hs a b (by omega) hb h
  rw [getElem!_pos _ a (by omega),getElem!_pos _ b hb]
  simp only [ltP,Bool.not_eq_true',decide_eq_false_iff_not] at this
  omega
 ·have:a=b:=by omega
  subst this
  exact Int.le_refl _
theorem im_new {E:Env} {N:Nums} {rg:List Rg} {w:World} (h:Sat E N rg w) {k o:Nat} (hk:w.heap.size≤k):E.im k o=none:=by
 cases hv:E.im k o with
 | none=>rfl
 | some v =>
  have:=h.imm k o v hv
  simp [World.cell?,Array.getElem?_eq_none hk] at this
theorem keepGo_len (R:Nat→Int) (many:Int):∀ (k i:Nat) (out:List Int),(keepGo R many k i out).length≤out.length+k
 | 0,_,out=>Nat.le_refl _
 | k+1,i,out=>by
  unfold keepGo
  split
  ·omega
  ·have:=keepGo_len R many k (i+1) (if R i∈out then out else out++[R i])
   have h2:(if R i∈out then out else out++[R i]).length≤out.length+1:=by split<;>simp
   omega
theorem keepL_len (L:List (Int × Int)) (key many:Int):(keepL L key many).length≤L.length:=by
 have:=keepGo_len (nodeAt L (atP L (keyZ key))) many L.length 0 []
 simpa [keepL] using this
def ofL (d:Array Int) (key:Int):List Int:=(srtA (keepL (ringP d) key 3).toArray).toList
theorem of_ok (po:Option Addr) (n cp:Nat) (d:Array Int) (key:Int) (w:World) (hle:n≤1000) (hA:InB po n d w) (hd:∀ x∈d.toList,0≤x∧x<256) :
  Calls Tryz.prog 68 #[.slice po n cp,.int .u8 key] w (BytRet (ofL d key) w):=by
 obtain ⟨F,hF⟩:∃ F,F=ofL d key:=⟨_,rfl⟩
 rw [←hF]
 refine X.begin (rg:=[]) (N:=[]) (ss:=[.slv po n cp,.int .u8 (.v key)]) Tryz.func68 rfl B68_ok rfl rfl Sat.std0 ?_
 refine X.go T68_ok 400 _ rfl Tryz.results68 ?_
 conv=>arg 2;cbv
 refine X.call rfl rfl rfl rfl Tryz.call89 (fun N w1 args hN hS ha=>?_)
 have ha:args=[.slice po n cp]:=(Option.some.inj ha).symm
 rw [ha]
 refine (build_ok po n cp d w1 hle (hA.stays hS.chg.none)).mono fun e w2 ⟨p,c,he,hr,hch⟩=>⟨_,he,?_⟩
 obtain ⟨L,hL⟩:∃ L,L=ringP d:=⟨_,rfl⟩
 obtain ⟨m,hm⟩:∃ m,m=L.length:=⟨_,rfl⟩
 have hm8:m≤8000:=by rw [hm,hL];have:=ringP_len d;have:=hA.1;omega
 rw [←hL] at hr
 rw [←hL,←hm]
 refine Goes.newMem hN hS hch (r:=.slv p m c) rfl rfl (fun hold hnew=>?_)
 obtain ⟨im,him⟩:∃ im,im=imNew (elsewhere [] [] w) w1 w2:=⟨_,rfl⟩
 have hpt:0<m→∃ b o,p=some ⟨b,o,none⟩∧∀ j,j<L.length→im b (o+j*2)=some (.int .u64 L[j]!.1)∧im b (o+j*2+1)=some (.int .u8 L[j]!.2):=fun h0=>by
  rcases hr with h | ⟨b,o,h1,h2,h3⟩
  ·rw [h] at hm;simp at hm;omega
  ·refine ⟨b,o,h1,fun j hj=>?_⟩
   have:=PtIn.of h3 j hj
   rw [him]
   exact ⟨hnew _ _ _ h2 this.1,hnew _ _ _ h2 this.2⟩
 show X (mkE Tryz.prog Tryz.f68 (BytRet F w) w (InR [] []) (imNew (elsewhere [] [] w) w1 w2) (fun _ _=>False) (fun _=>True) [] B68) _ _
 rw [←him]
 clear him hold hnew hr hch he ha hS hN
 refine X.go T68_ok 400 _ rfl Tryz.results68 ?_
 conv=>arg 2;cbv
 refine X.call rfl rfl rfl rfl Tryz.call88 (fun N w3 args hN hS ha=>?_)
 have ha:args=[.slice p m c,.int .u8 key,.int .i64 3]:=(Option.some.inj ha).symm
 rw [ha]
 obtain ⟨b,o,hp,hpi⟩:∃ b o,(0<m→p=some ⟨b,o,none⟩)∧PtIn b o L w3:=by
  rcases Nat.eq_zero_or_pos m with h | h
  ·exact ⟨0,0,fun h2=>by omega,fun j hj=>by omega⟩
  ·obtain ⟨b,o,h1,h2⟩:=hpt h
   exact ⟨b,o,fun _=>h1,fun j hj=>⟨hS.imm _ _ _ (h2 j hj).1,hS.imm _ _ _ (h2 j hj).2⟩⟩
 refine (keepers_ok b o m c p L key 3 w3 hp hm.symm hm8 hpi (by rw [hL];exact ringP_rise d) (by rw [hL];exact ringP_byte hd)).mono fun e w4 ⟨p2,c2,he,hc2,hr,hch⟩=>⟨_,he,?_⟩
 obtain ⟨out,hout⟩:∃ l,l=keepL L key 3:=⟨_,rfl⟩
 obtain ⟨ll,hll⟩:∃ q,q=out.length:=⟨_,rfl⟩
 rw [←hout] at hr hc2
 rw [←hout,←hll]
 have hFo:F=(srtA out.toArray).toList:=by rw [hF,ofL,←hL,←hout]
 rcases hr with ⟨h1,h2,h3⟩ | ⟨hne,b2,o2,h1,h2,h3⟩
 ·subst h2 h3
  have hl0:ll=0:=by rw [hll,h1];rfl
  subst hl0
  have hFn:F=[]:=by rw [hFo,h1];simp [srtA]
  refine Goes.same hN hS hch (r:=.raw (.slice none 0 0)) rfl rfl ?_
  refine X.go T68_ok 400 _ rfl Tryz.results68 ?_
  conv=>arg 2;cbv
  refine X.call rfl rfl rfl rfl Tryz.call90 (fun N w5 args hN hS ha=>?_)
  have ha:args=[.slice none 0 0]:=(Option.some.inj ha).symm
  rw [ha]
  refine (sort8_nil w5).mono fun e w6 ⟨he,hc⟩=>⟨_,he,Goes.same hN hS hc (r:=.tup []) rfl rfl ?_⟩
  refine X.go T68_ok 400 _ rfl Tryz.results68 ?_
  conv=>arg 2;cbv
  refine X.done T68_ok rfl (fun N w' v hN hS hv=>?_)
  simp [resV,SV.den,one?] at hv
  exact ⟨none,0,by rw [←hv,hFn];rfl,by rw [hFn];exact Nat.le_refl _,.inl ⟨hFn,rfl,rfl⟩,hS.chg.none⟩
 ·have hsz:out.toArray.size=ll:=by rw [hll];simp
  have hbw:w.heap.size≤b2:=Nat.le_trans hS.chg.size h2
  have hdw:∀ k o,arrD b2 o2 ll k o→w.heap.size≤k:=fun k o ⟨e1,_,_⟩=>by rw [e1];exact hbw
  have hdi:∀ k o,arrD b2 o2 ll k o→im k o=none:=fun k o ⟨e1,_,_⟩=>im_new hS (by rw [e1];exact h2)
  refine Goes.turn (r:=.slv p2 ll c2) (arrD b2 o2 ll) (fun w=>AtA w b2 o2 out.toArray) hN hS hch (fun _ _ h=>h.elim) (fun _ _ h=>h.elim) (by simp) (fun k o hk=>⟨.inr (by obtain ⟨e1,e2,e3⟩:=hk;rw [e1];exact h2),h3.there (by omega) hk⟩) (AtA.loc (by omega)) h3 rfl rfl ?_
  clear h3 hch he ha hS hN
  show X (mkE Tryz.prog Tryz.f68 (BytRet F w) w (InR [] []) im (arrD b2 o2 ll) (fun w=>AtA w b2 o2 out.toArray) [] B68) _ _
  refine X.go T68_ok 400 _ rfl Tryz.results68 ?_
  conv=>arg 2;cbv
  refine X.call rfl rfl rfl rfl Tryz.call90 (fun N w5 args hN hS ha=>?_)
  have ha:args=[.slice p2 ll c2]:=(Option.some.inj ha).symm
  rw [ha,h1]
  have hll8:ll≤8000:=by have:=keepL_len L key 3;rw [←hout] at this;omega
  refine (sort8_ok b2 o2 ll c2 out.toArray w5 hS.res hsz (by omega)).mono fun e w6 ⟨S,⟨g1,g2⟩,he,hA1,hch⟩=>⟨_,he,?_⟩
  have hSr:=srtA_of hsz g1 g2
  subst hSr
  have hsn:(srtA out.toArray).size=ll:=by rw [srtA_size,hsz]
  refine Goes.turn (r:=.tup []) (arrD b2 o2 ll) (fun w=>AtA w b2 o2 (srtA out.toArray)) hN hS hch (fun k o h=>.inl (hdw k o h)) hdi (by simp) (fun k o hk=>⟨.inl hk,hA1.there (by omega) hk⟩) (AtA.loc (by omega)) hA1 rfl rfl ?_
  clear hA1 hch he ha hS hN g1 g2
  show X (mkE Tryz.prog Tryz.f68 (BytRet F w) w (InR [] []) im (arrD b2 o2 ll) (fun w=>AtA w b2 o2 (srtA out.toArray)) [] B68) _ _
  refine X.go T68_ok 400 _ rfl Tryz.results68 ?_
  conv=>arg 2;cbv
  refine X.done T68_ok rfl (fun N w' v hN hS hv=>?_)
  simp only [resV,SV.den,Option.some.injEq] at hv
  have hFl:F.length=ll:=by rw [hFo];simpa using hsn
  exact ⟨some ⟨b2,o2,none⟩,c2,by rw [←hv,hFl],by rw [hFl,hll];exact hc2,.inr ⟨fun h=>hne (List.eq_nil_of_length_eq_zero (by rw [←hll,←hFl,h];rfl)),b2,o2,rfl,hbw,by rw [hFo];exact hS.res⟩,hS.chg.none⟩
section
variable {E:Ctx}
end
end Go.Proofs.YthpbefahaghbjaaGreat
namespace Go.Eng
end Go.Eng
namespace Go.Proofs.YthpbefahaghbjaaGreat
open Go Go.Eng Go.Sort
theorem Sat.addRo {E:Env} {N:Nums} {rg:List Rg} {w:World} (h:Sat E N rg w) {b o x s0:Nat} {cs:List SV} (hN:∀ (r:Nat) (p:Num),N[r]?=some p→p.b<s0) (hs0:s0≤b) (hb:b<w.heap.size)
  (hcs:∀ (j:Nat) (c:SV),cs[j]?=some c→∃ v,c.den N=some v∧w.cell? ⟨b,o+j,none⟩=some v):Sat E (N++[⟨b,o,x⟩]) (rg++[⟨false,cs,none⟩]) w:=by
 have hle:N.le (N++[⟨b,o,x⟩]):=Nums.le_append _ _
 refine ⟨by simp [h.len],?_,?_,?_,?_,?_,?_,?_,h.imm,?_,?_,h.dlt,h.loc,h.res,h.chg,?_⟩
 ·intro i q hq
  rcases Nat.lt_or_ge i N.length with hi | hi
  ·rw [List.getElem?_append_left hi] at hq;exact h.lt i q hq
  ·rw [List.getElem?_append_right hi] at hq
   have hz:i-N.length=0:=by
    have:=(List.getElem?_eq_some_iff.1 hq).1
    simp at this;omega
   rw [hz] at hq;simp at hq;subst hq;exact hb
 ·intro i g q hg hq j d hj
  rcases get_snoc h.len hg hq with ⟨a,b⟩ | ⟨_,rfl,rfl⟩
  ·obtain ⟨v,h1,h2⟩:=h.cell i g q a b j d hj
   exact ⟨v,SV.den_mono hle d h1,h2⟩
  ·obtain ⟨v,h1,h2⟩:=hcs j d hj
   exact ⟨v,SV.den_mono hle d h1,h2⟩
 ·intro i g q hg hq ho
  rcases get_snoc h.len hg hq with ⟨a,b⟩ | ⟨_,rfl,rfl⟩
  ·exact h.ext i g q a b ho
  ·cases ho
 ·intro i g q hg hq ho
  rcases get_snoc h.len hg hq with ⟨a,b⟩ | ⟨_,rfl,rfl⟩
  ·exact h.room i g q a b ho
  ·cases ho
 ·intro i i' g g' q q' hg hq hg' hq' ho hne j hj hb'
  rcases get_snoc h.len hg hq with ⟨a1,a2⟩ | ⟨a0,rfl,rfl⟩
  ·rcases get_snoc h.len hg' hq' with ⟨b1,b2⟩ | ⟨b0,rfl,rfl⟩
   ·exact h.disj i i' g g' q q' a1 a2 b1 b2 ho hne j hj hb'
   ·have:=hN i q a2;simp at hb';omega
  ·cases ho
 ·intro i g q ob hg hq ho
  rcases get_snoc h.len hg hq with ⟨a,b⟩ | ⟨_,rfl,rfl⟩
  ·obtain ⟨⟨o',k1,k2⟩,k3⟩:=h.obj i g q ob a b ho
   exact ⟨⟨o',Ob.den_mono hle ob k1,k2⟩,k3⟩
  ·simp at ho
 ·intro i i' g g' q q' hg hq hg' hq' ho ho' hne
  rcases get_snoc h.len hg hq with ⟨a1,a2⟩ | ⟨a0,rfl,rfl⟩
  ·rcases get_snoc h.len hg' hq' with ⟨b1,b2⟩ | ⟨b0,rfl,rfl⟩
   ·exact h.odisj i i' g g' q q' a1 a2 b1 b2 ho ho' hne
   ·simp at ho'
  ·simp at ho
 ·intro i g q hg hq ho
  rcases get_snoc h.len hg hq with ⟨a,b⟩ | ⟨_,rfl,rfl⟩
  ·exact h.imd i g q a b ho
  ·cases ho
 ·intro i g q hg hq ho
  rcases get_snoc h.len hg hq with ⟨a,b⟩ | ⟨_,rfl,rfl⟩
  ·exact h.dd i g q a b ho
  ·cases ho
 ·intro i g q hg hq ho
  rcases get_snoc h.len hg hq with ⟨a,b⟩ | ⟨_,rfl,rfl⟩
  ·exact h.foot i g q a b ho
  ·cases ho
theorem ascA_pos {d:Array Int} (h:0<d.size):0<(ascA d).size:=by
 have h0:(0:Nat)∈(List.range d.size).filter (Go.Lib.keeps (srtA d)):=List.mem_filter.2 ⟨List.mem_range.2 h,Go.Lib.keeps_lt_one _ 0 (by omega)⟩
 simp only [ascA,Go.Lib.compactUpTo,List.size_toArray,List.length_map]
 exact List.length_pos_of_mem h0
theorem ringP_pos {d:Array Int} (h:0<d.size):ringP d≠[]:=fun e=>by
 have h1:=(ringP_perm d).length_eq
 rw [e,←ringTo_all,ringTo_len _ _ (Nat.le_refl _)] at h1
 have:=ascA_pos h
 simp at h1
 omega
theorem keepGo_ge (R:Nat→Int) (many:Int):∀ (k i:Nat) (out:List Int),out.length≤(keepGo R many k i out).length
 | 0,_,out=>Nat.le_refl _
 | k+1,i,out=>by
  unfold keepGo
  split
  ·exact Nat.le_refl _
  ·have h1:=keepGo_ge R many k (i+1) (if R i∈out then out else out++[R i])
   have h2:out.length≤(if R i∈out then out else out++[R i]).length:=by split<;>simp
   omega
theorem ofL_pos {d:Array Int} {key:Int} (h:0<d.size):ofL d key≠[]:=fun e=>by
 have h1:(keepL (ringP d) key 3).length=0:=by
  have:=congrArg List.length e
  simp only [ofL,Array.length_toList,srtA_size,List.size_toArray,List.length_nil] at this
  exact this
 have hL:0<(ringP d).length:=List.length_pos_iff.2 (ringP_pos h)
 obtain ⟨q,hq⟩:∃ q,(ringP d).length=q+1:=⟨(ringP d).length-1,by omega⟩
 unfold keepL at h1
 rw [hq,keepGo,if_neg (by simp),if_neg (by simp)] at h1
 have:=keepGo_ge (nodeAt (ringP d) (atP (ringP d) (keyZ key))) 3 q (0+1) ([]++[nodeAt (ringP d) (atP (ringP d) (keyZ key)) 0])
 rw [h1] at this
 simp at this
end Go.Proofs.YthpbefahaghbjaaGreat
namespace Go.Eng
open Go
section
variable {E:Ctx}
end
def gV (r n z:Nat):SV:=bif Nat.beq n 0 then .raw (.slice none 0 0) else .osl r 0 n z none
def eV (r n z:Nat):SV:=bif Nat.beq n 0 then .osl r 0 0 z (some 0) else .osl r 0 n z none
section
variable {E:Ctx}
end
theorem vk_osl {E:Env} {N0:Nums} {rg:List Rg} {f:Fr} {g:GK} {t e:TypeId} {x ix:Operand} {n z q r c:Nat} {sx:SV} {kd:IntKind} {s:SI} (hx:evK f g x=some sx) (hsx:sx=gV r n q∨sx=eV r n q∨∃ k,sx=.osl r 0 n q k) (hix:evK f g ix=some (.int kd s)) (hz:g.T→s.den=(z:Int)) (hu:E.P.underlying t=some (.slice e)) (hq:∀ w,(sizeOf e).run E.P w=.ok q w)
  (hlt:g.T→z<n) (hc:c=z*q) (hr:r<rg.length):ValOk E N0 rg f g (.indexAddr t x ix) (.own r c):=by
 intro ht N ρ op w hN0 hop hρ hV
 have h1:=hρ _ _ hx
 have h2:=hρ _ _ hix
 have hlt:=hlt ht
 obtain ⟨p,hp⟩:∃ p,N[r]?=some p:=⟨_,List.getElem?_eq_getElem (by have:=hV.1.len;omega)⟩
 have hb:Nat.beq n 0=false:=by cases h:Nat.beq n 0 with | false=>rfl | true=>have:=Nat.eq_of_beq_eq_true h;omega
 obtain ⟨k,hk⟩:∃ k,ρ x=.slice (some ⟨p.b,p.o+0,none⟩) n k:=by
  rcases hsx with rfl | rfl | ⟨k,rfl⟩
  ·simp only [gV,hb,cond_false,SV.den,hp,Option.some.injEq] at h1;exact ⟨_,h1.symm⟩
  ·simp only [eV,hb,cond_false,SV.den,hp,Option.some.injEq] at h1;exact ⟨_,h1.symm⟩
  ·simp only [SV.den,hp,Option.some.injEq] at h1;exact ⟨_,h1.symm⟩
 simp only [SV.den,hz ht,Option.some.injEq] at h2
 refine ⟨.pointer (some ⟨p.b,p.o+c,none⟩),by simp only [SV.den,hp],fun w' _=>?_⟩
 simp only [execOp,hop,hk,←h2,Sem.run_bind,Result.andThen,Sem.run_pure]
 simp [Instr.indexAt,asIntOf,run_underlying hu,Result.andThen,hlt,hq,addr_add,hc]
theorem vk_loadRow {E:Env} {N0:Nums} {rg:List Rg} {f:Fr} {g:GK} {t:TypeId} {x:Operand} {r c z:Nat} {gg:Rg} {row:List SV} (hx:evK f g x=some (.own r c)) (ha:∀ w,(isAgg t).run E.P w=.ok true w) (hs:∀ w,(sizeOf t).run E.P w=.ok z w) (hr:rg[r]?=some gg)
  (hl:row.length=z) (hc:∀ (j:Nat) (d:SV),row[j]?=some d→gg.cells[c+j]?=some d):ValOk E N0 rg f g (.load t x) (.agg row):=by
 intro _ N ρ o w hN0 hop hρ hV
 have h1:=hρ _ _ hx
 obtain ⟨p,hp⟩:∃ p,N[r]?=some p:=⟨_,List.getElem?_eq_getElem (Nat.lt_of_lt_of_le (List.getElem?_eq_some_iff.1 hr).1 hV.1.len)⟩
 simp only [SV.den,hp,Option.some.injEq] at h1
 obtain ⟨vs,hvs⟩:∃ vs,SV.denL N row=some vs:=SV.denL_of row fun j d hj=>by
  obtain ⟨v,hv,_⟩:=hV.1.cell r gg p hr hp _ d (hc j d hj)
  exact ⟨v,hv⟩
 obtain ⟨hvl,hvg⟩:=SV.denL_get row hvs
 refine ⟨.agg vs.toArray,by simp only [SV.den,hvs],fun w' hV'=>?_⟩
 have hrun:(loadCells ⟨p.b,p.o+c,none⟩ z).run E.P w'=.ok vs.toArray w':=by
  have:=run_loadCells_list (P:=E.P) w' ⟨p.b,p.o+c,none⟩ vs (fun j v hj=>by
   rw [addr_add]
   have hjl:j<row.length:=by have:=(List.getElem?_eq_some_iff.1 hj).1;omega
   obtain ⟨v1,k1,k2⟩:=hvg j _ (List.getElem?_eq_getElem hjl)
   rw [k2] at hj
   cases hj
   obtain ⟨v2,k3,k4⟩:=hV'.1.cell r gg p hr hp _ _ (hc j _ (List.getElem?_eq_getElem hjl))
   rw [k1] at k3
   cases k3
   rw [Nat.add_assoc]
   exact k4)
  rw [hvl,hl] at this
  exact this
 simp only [execOp,hop,←h1,Instr.loadAt,Instr.sureAddr,loadVar,Sem.run_bind,Sem.run_pure,Result.andThen,ha,if_true,hs,hrun]
theorem gV_den {N:Nums} {r n z:Nat} {p:Num} {v:Value} (hp:N[r]?=some p) (h:(gV r n z).den N=some v):∃ q c,v=.slice q n c∧(0<n→q=some ⟨p.b,p.o+0,none⟩)∧(n=0→q=none∧c=0):=by
 by_cases hn:n=0
 ·subst hn
  simp [gV,SV.den,one?] at h
  exact ⟨_,_,h.symm,fun h=>absurd h (Nat.lt_irrefl 0),fun _=>⟨rfl,rfl⟩⟩
 ·have hb:Nat.beq n 0=false:=by cases h:Nat.beq n 0 with | false=>rfl | true=>exact absurd (Nat.eq_of_beq_eq_true h) hn
  simp only [gV,hb,cond_false,SV.den,hp,Option.some.injEq] at h
  exact ⟨_,_,h.symm,fun _=>rfl,fun h=>absurd h hn⟩
end Go.Eng
namespace Go.Proofs.YthpbefahaghbjaaGreat
open Go Go.Eng
theorem wrap64 (z:Int):IntKind.u64.wrap z=z % 18446744073709551616:=by
 simp [IntKind.wrap,IntKind.bits,IntKind.signed]
end Go.Proofs.YthpbefahaghbjaaGreat
namespace Go.Eng
open Go
inductive STree where
 | nil
 | q (i:Nat) (blk:List Nat) (r:STree)
 | one (i:Nat) (r:STree)
 | two (i j:Nat) (x y:STree)
def only2 (l:List Nat) (i j:Nat):Bool:=match l with
 | [a,b]=>(Nat.beq a i&&Nat.beq b j) || (Nat.beq a j&&Nat.beq b i)
 | _=>false
theorem only2_spec {l:List Nat} {i j:Nat} (h:only2 l i j=true):l=[i,j]∨l=[j,i]:=by
 unfold only2 at h
 split at h
 ·simp only [Bool.or_eq_true,Bool.and_eq_true] at h
  rcases h with ⟨h1,h2⟩ | ⟨h1,h2⟩
  ·exact .inl (by rw [Nat.eq_of_beq_eq_true h1,Nat.eq_of_beq_eq_true h2])
  ·exact .inr (by rw [Nat.eq_of_beq_eq_true h1,Nat.eq_of_beq_eq_true h2])
 ·cases h
def treeOk (ops:Array Oper):STree→Nat→Array Bool→Bool
 | .nil,m,L=>Nat.beq m 0&&(Region.ready .any ops L).isEmpty
 | .q i blk r,m,L=>match m with
  | 0=>false
  | m+1=>(Region.ready .any ops L).contains i&&Region.free .any ops L i&&closedB ops i blk&&withinB L ops.size blk&&treeOk ops r m (L.setIfInBounds i true)
 | .one i r,m,L=>match m with
  | 0=>false
  | m+1=>only (Region.ready .any ops L) i&&treeOk ops r m (L.setIfInBounds i true)
 | .two i j x y,m,L=>match m with
  | 0=>false
  | m+1=>only2 (Region.ready .any ops L) i j&&treeOk ops x m (L.setIfInBounds i true)&&treeOk ops y m (L.setIfInBounds j true)
def prL (pr:Owe→Prop):List Owe→Prop→Prop
 | [],p=>p
 | o::os,p=>pr o∧prL pr os p
theorem prL_spec {pr:Owe→Prop}:∀ {os:List Owe} {p:Prop},prL pr os p→(∀ q∈os,pr q)∧p
 | [],_,h=>⟨fun _ h=>absurd h List.not_mem_nil,h⟩
 | o::os,p,⟨h1,h2⟩=>by
  obtain ⟨h3,h4⟩:=prL_spec h2
  exact ⟨fun q hq=>by rcases List.mem_cons.1 hq with rfl | h;exact h1;exact h3 q h,h4⟩
def stepT (pr:Owe→Prop) (td:List (Nat × SV)) (T:Tab) (n:Nat) (all:Array Oper) (K:KW) (i:Nat) (c:St→Prop) (s:St):Prop :=
 match qP td T n all s.rg i s.fr with
 | some (f,o)=>prL pr o (c ⟨f,s.rg⟩)
 | none=>match opE T n all i s with
  | some s'=>(match stR s.fr all i with | some k=>memN (lookK K i) k | none=>true)=true∧c s'
  | none=>match pcall td n all i s.fr with
   | some (f,gk,g,l,v)=>pr (.call s.rg gk g l v)∧c ⟨f,s.rg⟩
   | none=>False
end Go.Eng
namespace Go.Proofs.YthpbefahaghbjaaGreat
open Go Go.Eng Go.Sort
theorem X.noNames {P:Program} {fn:Func} {Q:Ending→World→Prop} {W:World} {O D:Nat→Nat→Prop} {Rr:World→Prop} {im:Mem} {B:SchT} {N0:Nums} {k:List It} {s:St} (h:X (mkE P fn Q W O im D Rr [] B) k s):X (mkE P fn Q W O im D Rr N0 B) k s :=
 X.conv fun N a w hN hf hS=>⟨mkE P fn Q W O im D Rr [] B,s,rfl,rfl,rfl,rfl,⟨N,nil_le N,hf,hS.env rfl rfl rfl rfl rfl⟩,h⟩
theorem num_of {E:Env} {N:Nums} {rg:List Rg} {w:World} (hS:Sat E N rg w) {r:Nat} {g:Rg} (hg:rg[r]?=some g):∃ p,N[r]?=some p:=⟨_,List.getElem?_eq_getElem (by rw [hS.len];exact (List.getElem?_eq_some_iff.1 hg).1)⟩
end Go.Proofs.YthpbefahaghbjaaGreat
namespace Go.Proofs.YthpbefahaghbjaaGreat
open Go Go.Eng Go.ChangeShapes Go.WideShapes Go.ChangeAt Go.RowKit
end Go.Proofs.YthpbefahaghbjaaGreat
namespace Go.Proofs.YthpbefahaghbjaaGreat
open Go Go.Eng Go.Sort
def dd:List Int→List Int→List Int
 | [],out=>out
 | x::xs,out=>dd xs (if x∈out then out else out++[x])
theorem dd_pre:∀ (l out:List Int),out <+: dd l out
 | [],out=>List.prefix_refl out
 | x::l,out=>by
  unfold dd
  refine List.IsPrefix.trans ?_ (dd_pre l _)
  split
  ·exact List.prefix_refl out
  ·exact List.prefix_append out [x]
theorem dd_mem:∀ (l out:List Int) (y:Int),y∈dd l out↔y∈out∨y∈l
 | [],out,y=>by simp [dd]
 | x::l,out,y=>by
  unfold dd
  rw [dd_mem l _ y]
  split
  ·rename_i h
   constructor
   ·rintro (h1 | h1)
    ·exact .inl h1
    ·exact .inr (List.mem_cons_of_mem _ h1)
   ·rintro (h1 | h1)
    ·exact .inl h1
    ·rcases List.mem_cons.1 h1 with rfl | h1
     ·exact .inl h
     ·exact .inr h1
  ·simp [or_assoc]
theorem dd_nodup:∀ (l out:List Int),out.Nodup→(dd l out).Nodup
 | [],out,h=>h
 | x::l,out,h=>by
  unfold dd
  refine dd_nodup l _ ?_
  split
  ·exact h
  ·rename_i hx
   refine List.nodup_append.2 ⟨h,by simp,fun a ha b hb e=>?_⟩
   subst e
   rw [List.mem_singleton.1 hb] at ha
   exact hx ha
theorem take_pre {l m:List Int} {n:Nat} (h:l <+: m) (hn:n≤l.length):m.take n=l.take n:=by
 obtain ⟨t,rfl⟩:=h
 rw [List.take_append_of_le_length hn]
theorem keepGo_dd (R:Nat→Int) (many:Int):∀ (k i:Nat) (out:List Int),out.length≤many.toNat→keepGo R many k i out=(dd ((List.range' i k).map R) out).take many.toNat
 | 0,i,out,h=>by simp [keepGo,dd,List.take_of_length_le h]
 | k+1,i,out,h=>by
  unfold keepGo
  by_cases hm:many≤out.length
  ·rw [if_pos hm,take_pre (dd_pre _ _) (by omega),List.take_of_length_le (by omega)]
  ·rw [if_neg hm,keepGo_dd R many k (i+1) _ (by split;exact h;simp;omega)]
   rw [List.range'_succ,List.map_cons,dd]
theorem comp_mem (d:Array Int):∀ (m:Nat),m≤d.size→∀ y,y∈Go.Lib.compactUpTo d m↔∃ j,j<m∧d[j]! = y
 | 0,_,y=>by simp [Go.Lib.compactUpTo]
 | m+1,hm,y=>by
  rw [Go.Lib.compactUpTo_succ,List.mem_append,comp_mem d m (by omega) y]
  constructor
  ·rintro (⟨j,h1,h2⟩ | h)
   ·exact ⟨j,by omega,h2⟩
   ·split at h
    ·exact ⟨m,by omega,(List.mem_singleton.1 h).symm⟩
    ·cases h
  ·rintro ⟨j,h1,h2⟩
   by_cases hj:j<m
   ·exact .inl ⟨j,hj,h2⟩
   ·have:j=m:=by omega
    subst this
    by_cases hk:Go.Lib.keeps d j=true
    ·exact .inr (by rw [if_pos hk];exact List.mem_singleton.2 h2.symm)
    ·have hk:¬(j=0∨d[j]! ≠ d[j-1]!):=by simpa [Go.Lib.keeps] using hk
     have h0:j≠0:=fun e=>hk (.inl e)
     have he:d[j]! = d[j-1]! := Classical.byContradiction fun e=>hk (.inr e)
     exact .inl ⟨j-1,by omega,by rw [←he,h2]⟩
theorem srtA_le (d:Array Int):∀ i j,i≤j→j<(srtA d).size→(srtA d)[i]! ≤ (srtA d)[j]! := fun i j hij hj=>by
 have hs:(srtA d).toList.Pairwise (fun x y=>(!ltInt y x)=true):=List.pairwise_mergeSort (fun x y z h1 h2=>by
  simp only [ltInt,Bool.not_eq_true',decide_eq_false_iff_not] at h1 h2 ⊢
  omega) (fun x y=>by
  simp only [ltInt,Bool.or_eq_true,Bool.not_eq_true',decide_eq_false_iff_not]
  omega) _
 rcases Nat.lt_or_ge i j with h | h
 ·have:=List.pairwise_iff_getElem.1 hs i j (by simpa using (by omega:i<(srtA d).size)) (by simpa using hj) h
  simp only [ltInt,Bool.not_eq_true',decide_eq_false_iff_not,Array.getElem_toList] at this
  rw [getElem!_pos _ i (by omega),getElem!_pos _ j hj]
  omega
 ·have:i=j:=by omega
  subst this
  exact Int.le_refl _
theorem ascA_iff (d:Array Int) (y:Int):y∈(ascA d).toList↔y∈d.toList:=by
 refine (comp_mem (srtA d) d.size (by rw [srtA_size];exact Nat.le_refl _) y).trans ?_
 rw [←(srtA_perm d).mem_iff]
 constructor
 ·rintro ⟨j,h1,rfl⟩
  have hj:j<(srtA d).size:=by rw [srtA_size];exact h1
  rw [getElem!_pos _ j hj]
  exact Array.getElem_mem_toList hj
 ·intro h
  obtain ⟨j,hj⟩:=List.mem_iff_getElem?.1 h
  have hlt:j<(srtA d).size:=by simpa using (List.getElem?_eq_some_iff.1 hj).1
  refine ⟨j,by rw [←srtA_size d];exact hlt,?_⟩
  rw [getElem!_pos _ j hlt]
  simpa [hlt] using hj
def turnL (L:List (Int × Int)) (kh:Int):List (Int × Int):=L.filter (fun p=>decide (kh≤p.1))++L.filter (fun p=>!decide (kh≤p.1))
theorem split_mono (p:Int × Int→Bool):∀ (L:List (Int × Int)),L.Pairwise (fun x y=>p x=true→p y=true)→L.take (L.countP fun x=>!p x)=L.filter (fun x=>!p x)∧L.drop (L.countP fun x=>!p x)=L.filter p
 | [],_=>⟨rfl,rfl⟩
 | x::L,h=>by
  obtain ⟨h1,h2⟩:=List.pairwise_cons.1 h
  obtain ⟨i1,i2⟩:=split_mono p L h2
  cases hx:p x with
  | false =>
   rw [List.countP_cons_of_pos (by simp [hx]),List.filter_cons_of_pos (by simp [hx]),List.filter_cons_of_neg (by simp [hx])]
   exact ⟨by rw [List.take_succ_cons,i1],by rw [List.drop_succ_cons,i2]⟩
  | true =>
   have hall:∀ y∈L,p y=true:=fun y hy=>h1 y hy hx
   have h0:L.countP (fun x=>!p x)=0:=List.countP_eq_zero.2 fun y hy=>by simp [hall y hy]
   rw [List.countP_cons_of_neg (by simp [hx]),h0,List.filter_cons_of_neg (by simp [hx]),List.filter_cons_of_pos hx]
   refine ⟨?_,?_⟩
   ·rw [List.filter_eq_nil_iff.2 fun y hy=>by simp [hall y hy]]
    rfl
   ·rw [List.filter_eq_self.2 hall]
    rfl
theorem atP_count (L:List (Int × Int)) (kh:Int):atP L kh=L.countP fun p=>!decide (kh≤p.1):=by
 unfold atP
 have:L=(List.range L.length).map fun i=>L[i]! := by
  apply List.ext_getElem
  ·simp
  ·intro i h1 h2
   simp [h1]
 conv=>rhs;rw [this,List.countP_map]
 rfl
theorem rise_pair {L:List (Int × Int)} (h:Rise L) (kh:Int):L.Pairwise (fun x y=>decide (kh≤x.1)=true→decide (kh≤y.1)=true):=List.pairwise_iff_getElem.2 fun i j hi hj hij h1=>by
 have:=h i j (by omega) hj
 rw [getElem!_pos _ i hi,getElem!_pos _ j hj] at this
 have h1:=of_decide_eq_true h1
 exact decide_eq_true (by omega)
theorem nodes_turn {L:List (Int × Int)} (h:Rise L) (kh:Int):(List.range' 0 L.length).map (nodeAt L (atP L kh))=(turnL L kh).map (·.2):=by
 obtain ⟨h1,h2⟩:=split_mono (fun p=>decide (kh≤p.1)) L (rise_pair h kh)
 rw [←atP_count] at h1 h2
 have hle:=atP_le L kh
 unfold turnL
 rw [←h1,←h2]
 obtain ⟨s,hs⟩:∃ s,s=atP L kh:=⟨_,rfl⟩
 rw [←hs] at hle ⊢
 apply List.ext_getElem
 ·simp;omega
 ·intro i hi1 hi2
  have hi:i<L.length:=by simpa using hi1
  simp only [List.getElem_map,List.getElem_range',Nat.zero_add,Nat.one_mul,nodeAt]
  rw [List.getElem_append]
  split
  ·rename_i hlt
   have hlt:i<L.length-s:=by simpa using hlt
   rw [Nat.mod_eq_of_lt (by omega),getElem!_pos _ _ (by omega),List.getElem_drop]
  ·rename_i hge
   have hge:¬i<L.length-s:=by simpa using hge
   have e:(s+i) % L.length=s+i-L.length:=by rw [Nat.mod_eq_sub_mod (by omega),Nat.mod_eq_of_lt (by omega)]
   rw [e,getElem!_pos _ _ (by omega),List.getElem_take]
   congr 2
   simp
   omega
theorem keepL_eq {L:List (Int × Int)} (h:Rise L) (key many:Int):keepL L key many=(dd ((turnL L (keyZ key)).map (·.2)) []).take many.toNat:=by
 unfold keepL
 rw [keepGo_dd _ _ _ _ _ (by simp),nodes_turn h]
theorem ringP_mem (d:Array Int) (y:Int):y∈(ringP d).map (·.2)↔y∈d.toList:=by
 rw [List.mem_map,←ascA_iff]
 constructor
 ·rintro ⟨p,hp,rfl⟩
  obtain ⟨n,hn,h⟩:=List.mem_flatMap.1 ((ringP_perm d).mem_iff.1 hp)
  obtain ⟨v,_,rfl⟩:=List.mem_map.1 h
  exact hn
 ·intro h
  exact ⟨(placeZ y (0:Nat),y),(ringP_perm d).mem_iff.2 (List.mem_flatMap.2 ⟨y,h,List.mem_map.2 ⟨0,by simp,rfl⟩⟩),rfl⟩
theorem turn_mem (L:List (Int × Int)) (kh:Int) (p:Int × Int):p∈turnL L kh↔p∈L:=by
 unfold turnL
 rw [List.mem_append,List.mem_filter,List.mem_filter]
 by_cases h:kh≤p.1<;>simp [h]
theorem nodes_mem (d:Array Int) (kh y:Int):y∈(turnL (ringP d) kh).map (·.2)↔y∈d.toList:=by
 refine Iff.trans ?_ (ringP_mem d y)
 simp only [List.mem_map,turn_mem]
theorem ofL_perm (d:Array Int) (key:Int):(ofL d key).Perm (keepL (ringP d) key 3):=by
 unfold ofL
 exact srtA_perm _
theorem ofL_len (d:Array Int) (key:Int) (h:d.size≤100):(ofL d key).length≤1000:=by
 rw [(ofL_perm d key).length_eq]
 have h1:=keepL_len (ringP d) key 3
 have h2:=ringP_len d
 omega
theorem byteN {x:Int} (h:0≤x∧x<256):∃ y:Nat,x=(y:Int)∧y<256:=⟨x.toNat,by omega,by omega⟩
def RoR (cs:List SV) (n:Nat) (w:World) (e:Ending) (w':World):Prop :=
 ∃ b o c,e=.returned (.slice (some ⟨b,o,none⟩) n c)∧(0<cs.length→w.heap.size≤b)∧b<w'.heap.size∧(∀ (j:Nat) (c:SV),cs[j]?=some c→∃ v,(∀ N,c.den N=some v)∧w'.cell? ⟨b,o+j,none⟩=some v)∧Chg (fun _ _=>False) w w'
theorem foldl_take {α β:Type} [Inhabited α] (f:β→α→β) (b:β) {L:List α} {k:Nat} (h:k<L.length):(L.take (k+1)).foldl f b=f ((L.take k).foldl f b) L[k]! := by
 rw [List.take_add_one,List.getElem?_eq_getElem h,Option.toList_some,List.foldl_append,getElem!_pos L k h]
 rfl
theorem keepL_nodup {L:List (Int × Int)} (h:Rise L) (key many:Int):(keepL L key many).Nodup:=by
 rw [keepL_eq h]
 exact (dd_nodup _ _ List.nodup_nil).sublist (List.take_sublist _ _)
theorem ofL_lt (d:Array Int) (key:Int):(ofL d key).Pairwise (·<·):=by
 have hnd:(ofL d key).Nodup:=(ofL_perm d key).nodup_iff.2 (keepL_nodup (ringP_rise d) key 3)
 obtain ⟨a,ha⟩:∃ a,a=srtA (keepL (ringP d) key 3).toArray:=⟨_,rfl⟩
 have hle:=srtA_le (keepL (ringP d) key 3).toArray
 have e:ofL d key=a.toList:=by rw [ha];rfl
 rw [←ha] at hle
 rw [e] at hnd ⊢
 refine List.pairwise_iff_getElem.2 fun i j hi hj hij=>?_
 have h1:=hle i j (by omega) (by simpa using hj)
 rw [getElem!_pos a i (by simpa using hi),getElem!_pos a j (by simpa using hj)] at h1
 have h2:=List.pairwise_iff_getElem.1 hnd i j hi hj hij
 simp only [Array.getElem_toList] at h2 ⊢
 omega
def mayP (d:Array Int) (k:Nat):Prop:=∀ i,i<k→d[i]! < 64∧(0<i→d[i-1]! < d[i]!)
theorem mayP_succ {d:Array Int} {k:Nat}:mayP d (k+1)↔mayP d k∧d[k]! < 64∧(0<k→d[k-1]! < d[k]!):=by
 constructor
 ·exact fun h=>⟨fun i hi=>h i (by omega),h k (by omega)⟩
 ·rintro ⟨h1,h2⟩ i hi
  rcases Nat.lt_or_ge i k with h | h
  ·exact h1 i h
  ·have:i=k:=by omega
   subst this
   exact h2
theorem mayP_mono {d:Array Int} {j k:Nat} (h:mayP d k) (hj:j≤k):mayP d j:=fun i hi=>h i (by omega)
theorem may_ok (p:Option Addr) (n c:Nat) (d:Array Int) (w:World) (hle:n≤100000) (hA:InB p n d w):Calls Tryz.prog 40 #[.slice p n c] w fun e w'=>e=.returned (.bool (B (mayP d n)))∧Chg (fun _ _=>False) w w':=by
 have hn:=hA.1
 obtain ⟨Q,hQ⟩:∃ Q:Ending→World→Prop,Q=fun e w'=>e=.returned (.bool (B (mayP d n)))∧Chg (fun _ _=>False) w w':=⟨_,rfl⟩
 rw [←hQ]
 refine X.begin (rg:=[]) (N:=[]) (ss:=[.slv p n c]) Tryz.func40 rfl B40_ok rfl rfl Sat.std0 ?_
 refine X.go T40_ok 400 _ rfl Tryz.results40 ?_
 conv=>arg 2;cbv
 refine X.loop (fun _:{i:Nat // i≤n∧mayP d i}=>mkE Tryz.prog Tryz.f40 Q w (InR [] []) (elsewhere [] [] w) (fun _ _=>False) (fun _=>True) [] B40)
  (fun g=>⟨[(0,.val (.slv p n c)),(5,.val (.slv p n c)),(6,.val (.int .i64 (.nat n))),(7,.val (.int .i64 (.nat g.1)))],[]⟩) (fun g=>n-g.1) (fun _=>⟨rfl,rfl,rfl,rfl⟩) (fun N ac w' hN hf hS=>⟨⟨0,Nat.zero_le _,fun i hi=>absurd hi (Nat.not_lt_zero i)⟩,?_⟩) (fun g q hq=>?_)
 ·exact At.again hf hS (by repeat first | exact trivial | refine ⟨⟨_,rfl,.inl ⟨rfl,rfl⟩⟩,?_⟩ | refine ⟨⟨_,rfl,.inr ⟨_,rfl,rfl⟩⟩,?_⟩ | refine ⟨⟨_,rfl,.inr ⟨_,rfl,by simp (disch:=omega) [SV.den,SI.den,wrapU,wrapD]<;>omega⟩⟩,?_⟩) trivial
 obtain ⟨i,hi,hmay⟩:=g
 show X (mkE Tryz.prog Tryz.f40 Q w (InR [] []) (elsewhere [] [] w) (fun _ _=>False) (fun _=>True) [] B40) _ ⟨[(0,.val (.slv p n c)),(5,.val (.slv p n c)),(6,.val (.int .i64 (.nat n))),(7,.val (.int .i64 (.nat i)))],[]⟩
 refine X.go T40_ok 400 _ rfl Tryz.results40 ?_
 conv=>arg 2;cbv
 refine X.cond rfl (fun hlt=>?_) (fun hge=>?_)
 ·simp only [SB.T,SI.den] at hlt
  have hlt:i<n:=by omega
  obtain ⟨b,y,hp,hd⟩:=hA.2 (by omega)
  obtain ⟨x,hx⟩:∃ x,x=d[i]! := ⟨_,rfl⟩
  obtain ⟨oi,hoi⟩:∃ o,o=y+i:=⟨_,rfl⟩
  obtain ⟨j,hj⟩:∃ j,j=i-1:=⟨_,rfl⟩
  obtain ⟨x',hx'⟩:∃ x,x=d[j]! := ⟨_,rfl⟩
  obtain ⟨oj,hoj⟩:∃ o,o=y+j:=⟨_,rfl⟩
  have hix:elsewhere [] [] w b (oi+0)=some (.int .u8 x):=by rw [Nat.add_zero,els_old,hoi,hx];exact hd i (by omega)
  have hjx:elsewhere [] [] w b (oj+0)=some (.int .u8 x'):=by rw [Nat.add_zero,els_old,hoj,hx'];exact hd j (by omega)
  have hms:=mayP_succ (d:=d) (k:=i)
  rw [←hj,←hx,←hx'] at hms
  have hjz:∀ s:SB,s.den=true→s=.gt (.nat i) (.lit 0)→IntKind.i64.wrap ((i:Int)-1)=(j:Int):=fun s h1 h2=>by
   subst h2
   have:0<i:=by have:=(SB.TF _).1.1 h1;simp only [SB.T,SI.den] at this;omega
   rw [wrapN _ (by omega) (by omega)]
   omega
  refine X.goP ([(10,.ext b oi 0),(11,.int .u8 (.v x)),(22,.ext b oj 0),(23,.int .u8 (.v x'))]) T40_ok 400 _ rfl Tryz.results40 (fun pr fin hpr hfin=>?_)
  conv=>cbv
  refine ⟨hpr _ (ValOk.im1 rfl Tryz.isAgg5 (fun _=>rfl) fun _=>hjx),hpr _ (ValOk.at (z:=j) rfl rfl (fun hT=>by exact hjz _ hT rfl) Tryz.underlying30 Tryz.sizeOf5 (fun _=>by omega) hp (by omega)),hpr _ (ValOk.im1 rfl Tryz.isAgg5 (fun _=>rfl) fun _=>hix),hpr _ (ValOk.at (z:=i) rfl rfl (fun _=>rfl) Tryz.underlying30 Tryz.sizeOf5 (fun _=>hlt) hp (by omega)),hfin _ _ ?_⟩
  refine X.cond rfl (fun hT=>?_) (fun hF=>?_)
  ·simp only [SB.T,SB.F,SI.den] at hT
   have hno:¬mayP d n:=fun h=>by
    have h1:=hms.1 (mayP_mono h hlt)
    rcases hT with h2 | ⟨h2,h3⟩
    ·omega
    ·have:=h1.2.2 (by omega)
     omega
   refine X.go T40_ok 400 _ rfl Tryz.results40 ?_
   conv=>arg 2;cbv
   refine X.done T40_ok rfl (fun N w' v hN hS hv=>?_)
   rw [hQ]
   exact ⟨fin_bool hv (by rw [B_neg hno];rfl),hS.chg.none⟩
  ·simp only [SB.T,SB.F,SI.den] at hF
   have hyes:mayP d (i+1):=hms.2 ⟨hmay,by omega,fun h=>by rcases hF.2 with h2 | h2<;>omega⟩
   refine X.go T40_ok 400 _ rfl Tryz.results40 ?_
   conv=>arg 2;cbv
   refine X.back (fun N ac w' hN hf hS=>hq ⟨i+1,hlt,hyes⟩ ac w' (by simp only;omega) ?_)
   exact At.again hf hS (by repeat first | exact trivial | refine ⟨⟨_,rfl,.inl ⟨rfl,rfl⟩⟩,?_⟩ | refine ⟨⟨_,rfl,.inr ⟨_,rfl,rfl⟩⟩,?_⟩ | refine ⟨⟨_,rfl,.inr ⟨_,rfl,by simp (disch:=omega) [SV.den,SI.den,wrapU,wrapD]<;>omega⟩⟩,?_⟩) trivial
 ·simp only [SB.F,SI.den] at hge
  have hin:i=n:=by omega
  subst hin
  refine X.go T40_ok 400 _ rfl Tryz.results40 ?_
  conv=>arg 2;cbv
  refine X.done T40_ok rfl (fun N w' v hN hS hv=>?_)
  rw [hQ]
  exact ⟨fin_bool hv (by rw [B_pos hmay];rfl),hS.chg.none⟩
end Go.Proofs.YthpbefahaghbjaaGreat
namespace Go.Proofs.YthpbefahaghbjaaGreat
open Go Go.Eng
def popN:Nat→Nat→Nat
 | 0,_=>0
 | n+1,x=>popN n (x / 2)+x % 2
def repB (c:Nat):Nat→Nat
 | 0=>0
 | n+1=>repB c n*256+c
def mapB (f:Nat→Nat):Nat→Nat→Nat
 | 0,_=>0
 | n+1,x=>mapB f n (x / 256)*256+f (x % 256)
theorem and_split (a b c d:Nat) (hb:b<256) (hd:d<256):(a*256+b) &&& (c*256+d)=(a &&& c)*256+(b &&& d):=by
 have h1:∀ i,((a*256+b) &&& (c*256+d)).testBit i=((a &&& c)*256+(b &&& d)).testBit i:=fun i=>by
  have e:(256:Nat)=2 ^ 8:=by decide
  have hbd:b &&& d<2 ^ 8:=by rw [←e];exact Nat.lt_of_le_of_lt Nat.and_le_left hb
  rw [Nat.testBit_and,Nat.mul_comm a,Nat.mul_comm c,Nat.mul_comm (a &&& c),e]
  rw [Nat.testBit_two_pow_mul_add _ (by rw [←e];exact hb),Nat.testBit_two_pow_mul_add _ (by rw [←e];exact hd),Nat.testBit_two_pow_mul_add _ hbd]
  split
  ·rw [Nat.testBit_and]
  ·rw [Nat.testBit_and]
 exact Nat.eq_of_testBit_eq h1
def s1 (b:Nat):Nat:=(b / 2 &&& 85)+(b &&& 85)
def s2 (b:Nat):Nat:=(b / 4 &&& 51)+(b &&& 51)
def s3 (b:Nat):Nat:=(b / 16+b) &&& 15
theorem step1:∀ (n x:Nat),(x / 2 &&& repB 85 n)+(x &&& repB 85 n)=mapB s1 n x
 | 0,x=>by simp [repB,mapB]
 | n+1,x=>by
  have ih:=step1 n (x / 256)
  have hlo:∀ h:Fin 2,∀ l:Fin 256,(h.1*128+l.1 / 2) &&& 85=l.1 / 2 &&& 85:=by decide +kernel
  have e1:x / 2=(x / 256 / 2)*256+((x / 256 % 2)*128+x % 256 / 2):=by omega
  have e2:x=x / 256*256+x % 256:=by omega
  have h1:=hlo ⟨x / 256 % 2,by omega⟩ ⟨x % 256,by omega⟩
  simp only at h1
  have h2:x / 2 &&& repB 85 (n+1)=(x / 256 / 2 &&& repB 85 n)*256+(x % 256 / 2 &&& 85):=by
   rw [repB]
   conv=>lhs;rw [e1]
   rw [and_split _ _ _ _ (by omega) (by decide),h1]
  have h3:x &&& repB 85 (n+1)=(x / 256 &&& repB 85 n)*256+(x % 256 &&& 85):=by
   rw [repB]
   conv=>lhs;rw [e2]
   rw [and_split _ _ _ _ (by omega) (by decide)]
  rw [h2,h3,mapB,←ih,s1]
  omega
theorem step2:∀ (n x:Nat),(x / 4 &&& repB 51 n)+(x &&& repB 51 n)=mapB s2 n x
 | 0,x=>by simp [repB,mapB]
 | n+1,x=>by
  have ih:=step2 n (x / 256)
  have hlo:∀ h:Fin 4,∀ l:Fin 256,(h.1*64+l.1 / 4) &&& 51=l.1 / 4 &&& 51:=by decide +kernel
  have e1:x / 4=(x / 256 / 4)*256+((x / 256 % 4)*64+x % 256 / 4):=by omega
  have e2:x=x / 256*256+x % 256:=by omega
  have h1:=hlo ⟨x / 256 % 4,by omega⟩ ⟨x % 256,by omega⟩
  simp only at h1
  have h2:x / 4 &&& repB 51 (n+1)=(x / 256 / 4 &&& repB 51 n)*256+(x % 256 / 4 &&& 51):=by
   rw [repB]
   conv=>lhs;rw [e1]
   rw [and_split _ _ _ _ (by omega) (by decide),h1]
  have h3:x &&& repB 51 (n+1)=(x / 256 &&& repB 51 n)*256+(x % 256 &&& 51):=by
   rw [repB]
   conv=>lhs;rw [e2]
   rw [and_split _ _ _ _ (by omega) (by decide)]
  rw [h2,h3,mapB,←ih,s2]
  omega
theorem s12_le:∀ l:Fin 256,s2 (s1 l.1) % 16≤4∧s2 (s1 l.1) / 16≤4∧s1 l.1<256∧s3 (s2 (s1 l.1))=popN 8 l.1∧s2 (s1 l.1)<256:=by decide +kernel
def nib:Nat→Nat→Prop
 | 0,x=>x=0
 | n+1,x=>x % 16≤4∧x % 256 / 16≤4∧nib n (x / 256)
theorem step3:∀ (n x:Nat),nib n x→(x / 16+x) &&& repB 15 n=mapB s3 n x
 | 0,x,_=>by simp [repB,mapB]
 | n+1,x,⟨h1,h2,h3⟩=>by
  have ih:=step3 n (x / 256) h3
  have hlo:∀ h:Fin 5,∀ l:Fin 5,∀ m:Fin 5,(((m.1+h.1)*16+(h.1+l.1)) &&& 15)=(((h.1*16+l.1) / 16+(h.1*16+l.1)) &&& 15):=by decide +kernel
  have hm:x / 256 % 16≤4:=by
   cases n with
   | zero=>have:x / 256=0:=h3;omega
   | succ n=>exact h3.1
  have e1:x / 16+x=(x / 256 / 16+x / 256)*256+((x / 256 % 16+x % 256 / 16)*16+(x % 256 / 16+x % 16)):=by omega
  have k:=hlo ⟨x % 256 / 16,by omega⟩ ⟨x % 16,by omega⟩ ⟨x / 256 % 16,by omega⟩
  simp only at k
  rw [repB,e1,and_split _ _ _ _ (by omega) (by decide),ih,mapB,k,s3]
  congr 2
  omega
theorem mapB_comp (f g:Nat→Nat) (hf:∀ l,l<256→f l<256):∀ (n x:Nat),mapB g n (mapB f n x)=mapB (fun b=>g (f b)) n x
 | 0,_=>rfl
 | n+1,x=>by
  have h:=hf (x % 256) (by omega)
  rw [mapB,mapB,mapB,←mapB_comp f g hf n (x / 256)]
  congr 2
  ·congr 1;omega
  ·congr 1;omega
theorem nib_of:∀ (n x:Nat),nib n (mapB (fun b=>s2 (s1 b)) n x)
 | 0,x=>rfl
 | n+1,x=>by
  obtain ⟨h1,h2,_,_,h5⟩:=s12_le ⟨x % 256,by omega⟩
  simp only at h1 h2 h5
  rw [mapB]
  refine ⟨by omega,by omega,?_⟩
  have:=nib_of n (x / 256)
  rwa [show (mapB (fun b=>s2 (s1 b)) n (x / 256)*256+s2 (s1 (x % 256))) / 256=mapB (fun b=>s2 (s1 b)) n (x / 256) by omega]
theorem popN_add:∀ (a b x:Nat),popN (a+b) x=popN a (x / 2 ^ b)+popN b x
 | a,0,x=>by simp [popN]
 | a,b+1,x=>by
  rw [←Nat.add_assoc,popN,popN_add a b (x / 2),popN]
  rw [Nat.div_div_eq_div_mul,Nat.pow_succ,Nat.mul_comm 2,Nat.add_assoc]
theorem popN_mod:∀ (b x:Nat),popN b (x % 2 ^ b)=popN b x
 | 0,_=>rfl
 | b+1,x=>by
  rw [popN,popN,Nat.pow_succ,show x % (2 ^ b*2) / 2=x / 2 % 2 ^ b by rw [Nat.mul_comm];exact Nat.mod_mul_right_div_self _ _ _,popN_mod b (x / 2)]
  congr 1
  exact Nat.mod_mul_left_mod _ _ _
theorem pop_bytes (x:Nat) (hx:x<2 ^ 64):popN 64 x=popN 8 (x / 256 / 256 / 256 / 256 / 256 / 256 / 256 % 256)+popN 8 (x / 256 / 256 / 256 / 256 / 256 / 256 % 256)+popN 8 (x / 256 / 256 / 256 / 256 / 256 % 256)+popN 8 (x / 256 / 256 / 256 / 256 % 256)+popN 8 (x / 256 / 256 / 256 % 256)+popN 8 (x / 256 / 256 % 256)+popN 8 (x / 256 % 256)+popN 8 (x % 256):=by
 have h:∀ n y,popN (n+8) y=popN n (y / 256)+popN 8 (y % 256):=fun n y=>by
  rw [popN_add n 8 y]
  congr 1
  exact (popN_mod 8 y).symm
 rw [h 56,h 48,h 40,h 32,h 24,h 16,h 8]
 have:popN 8 (x / 256 / 256 / 256 / 256 / 256 / 256 / 256)=popN 8 (x / 256 / 256 / 256 / 256 / 256 / 256 / 256 % 256):=(popN_mod 8 _).symm
 omega
theorem pop8_le:∀ l:Fin 256,popN 8 l.1≤8:=by decide +kernel
theorem fold_bytes (c0 c1 c2 c3 c4 c5 c6 c7 c d e:Nat) (q0:c0≤8) (q1:c1≤8) (q2:c2≤8) (q3:c3≤8) (q4:c4≤8) (q5:c5≤8) (q6:c6≤8) (q7:c7≤8) (hc:c=((((((c7*256+c6)*256+c5)*256+c4)*256+c3)*256+c2)*256+c1)*256+c0)
  (hd:d=c+c / 256) (he:e=d+d / 65536):(d<18446744073709551616∧e<18446744073709551616∧e+e / 4294967296<9223372036854775808)∧(e+e / 4294967296) % 128=c7+c6+c5+c4+c3+c2+c1+c0:=by
 have hd2:c / 256=((((((c7*256+c6)*256+c5)*256+c4)*256+c3)*256+c2)*256+c1):=by clear hd he;omega
 rw [hd2,hc] at hd
 clear hd2 hc
 have hd3:d / 65536=(((((c7*256+(c6+c7))*256+(c5+c6))*256+(c4+c5))*256+(c3+c4))*256+(c2+c3)):=by
  clear he
  obtain ⟨t,ht⟩:∃ t,t=(((((c7*256+(c6+c7))*256+(c5+c6))*256+(c4+c5))*256+(c3+c4))*256+(c2+c3)):=⟨_,rfl⟩
  have:d=t*65536+((c1+c2)*256+(c0+c1)):=by omega
  rw [←ht]
  clear hd ht
  omega
 rw [hd3] at he
 have he2:e=(((((((c7*256+(c6+c7))*256+(c5+c6+c7))*256+(c4+c5+c6+c7))*256+(c3+c4+c5+c6))*256+(c2+c3+c4+c5))*256+(c1+c2+c3+c4))*256+(c0+c1+c2+c3)):=by
  clear hd3
  omega
 have hd8:d<18446744073709551616:=by clear hd3 he he2;omega
 clear hd3 he hd
 have he3:e / 4294967296=(((c7*256+(c6+c7))*256+(c5+c6+c7))*256+(c4+c5+c6+c7)):=by
  obtain ⟨t,ht⟩:∃ t,t=(((c7*256+(c6+c7))*256+(c5+c6+c7))*256+(c4+c5+c6+c7)):=⟨_,rfl⟩
  have:e=t*4294967296+((((c3+c4+c5+c6)*256+(c2+c3+c4+c5))*256+(c1+c2+c3+c4))*256+(c0+c1+c2+c3)):=by omega
  rw [←ht]
  clear he2 ht hd8
  omega
 rw [he3]
 have hs:e+((((c7*256+(c6+c7))*256+(c5+c6+c7))*256+(c4+c5+c6+c7)))=128*(2*((((((c7*256+(c6+c7))*256+(c5+c6+c7))*256+(c4+c5+c6+c7))*256+(c3+c4+c5+c6+c7))*256+(c2+c3+c4+c5+c6+c7))*256+(c1+c2+c3+c4+c5+c6+c7)))+(c7+c6+c5+c4+c3+c2+c1+c0):=by
  clear he3 hd8
  omega
 have h1:e<18446744073709551616:=by clear he3 hs hd8;omega
 have h2:e+((((c7*256+(c6+c7))*256+(c5+c6+c7))*256+(c4+c5+c6+c7)))<9223372036854775808:=by clear he3 hs hd8 h1;omega
 refine ⟨⟨hd8,h1,h2⟩,?_⟩
 rw [hs,Nat.mul_add_mod]
 exact Nat.mod_eq_of_lt (by clear hs h1 h2 he2 he3 hd8;omega)
theorem ones_law (x:Nat) (hx:x<2 ^ 64) (a b c d e:Nat) (ha:a=(x / 2 &&& 6148914691236517205)+(x &&& 6148914691236517205)) (hb:b=(a / 4 &&& 3689348814741910323)+(a &&& 3689348814741910323)) (hc:c=(b / 16+b) &&& 1085102592571150095) (hd:d=c+c / 256) (he:e=d+d / 65536) :
  (a<18446744073709551616∧b<18446744073709551616∧b / 16+b<18446744073709551616∧d<18446744073709551616∧e<18446744073709551616∧e+e / 4294967296<9223372036854775808)∧(e+e / 4294967296) % 128=popN 64 x:=by
 have r1:repB 85 8=6148914691236517205:=by decide
 have r2:repB 51 8=3689348814741910323:=by decide
 have r3:repB 15 8=1085102592571150095:=by decide
 have ha:a=mapB s1 8 x:=by rw [ha,←step1 8 x,r1]
 have hb:b=mapB (fun b=>s2 (s1 b)) 8 x:=by
  have:=step2 8 a
  rw [r2,←hb,ha,mapB_comp s1 s2 (fun l hl=>(s12_le ⟨l,hl⟩).2.2.1)] at this
  exact this
 have hc:c=mapB (fun l=>s3 (s2 (s1 l))) 8 x:=by
  have:=step3 8 b (by rw [hb];exact nib_of 8 x)
  rw [r3,←hc,hb,mapB_comp _ s3 (fun l hl=>(s12_le ⟨l,hl⟩).2.2.2.2)] at this
  exact this
 have hp:∀ y,s3 (s2 (s1 (y % 256)))=popN 8 (y % 256):=fun y=>(s12_le ⟨y % 256,by omega⟩).2.2.2.1
 have hq:∀ y,popN 8 (y % 256)≤8:=fun y=>pop8_le ⟨y % 256,by omega⟩
 have mapB_le:∀ (f:Nat→Nat) (m:Nat),(∀ l,l<256→f l≤m)→∀ n x,mapB f n x≤repB m n:=fun f m hf n=>by
  induction n with
  | zero=>intro x;exact Nat.le_refl _
  | succ n ih =>
   intro x
   have h1:=ih (x / 256)
   have h2:=hf (x % 256) (by omega)
   rw [mapB,repB]
   omega
 have ha8:a≤18446744073709551615:=by
  rw [ha]
  exact mapB_le s1 255 (fun l hl=>by have:=(s12_le ⟨l,hl⟩).2.2.1;simp only at this;omega) 8 x
 have hb8:b≤4919131752989213764:=by
  rw [hb]
  exact mapB_le _ 68 (fun l hl=>by have h1:=(s12_le ⟨l,hl⟩).1;have h2:=(s12_le ⟨l,hl⟩).2.1;simp only at h1 h2;omega) 8 x
 rw [pop_bytes x hx]
 simp only [mapB,hp] at hc
 have key:=fold_bytes _ _ _ _ _ _ _ _ c d e (hq x) (hq (x / 256)) (hq (x / 256 / 256)) (hq (x / 256 / 256 / 256)) (hq (x / 256 / 256 / 256 / 256)) (hq (x / 256 / 256 / 256 / 256 / 256)) (hq (x / 256 / 256 / 256 / 256 / 256 / 256)) (hq (x / 256 / 256 / 256 / 256 / 256 / 256 / 256)) (by rw [hc,Nat.zero_mul,Nat.zero_add]) hd he
 exact ⟨⟨by clear key hc hb8;omega,by clear key hc ha8;omega,by clear key hc ha8;omega,key.1⟩,key.2⟩
end Go.Proofs.YthpbefahaghbjaaGreat
namespace Go.Proofs.YthpbefahaghbjaaGreat
open Go Go.Eng Go.Sort
theorem Sat.addRoW {E:Env} {N:Nums} {rg:List Rg} {w:World} (h:Sat E N rg w) {b o x s0:Nat} {cs:List SV} (hN:∀ (r:Nat) (p:Num),N[r]?=some p→p.b<s0) (hs0:0<cs.length→s0≤b) (hb:b<w.heap.size)
  (hcs:∀ (j:Nat) (c:SV),cs[j]?=some c→∃ v,c.den N=some v∧w.cell? ⟨b,o+j,none⟩=some v):Sat E (N++[⟨b,o,x⟩]) (rg++[⟨false,cs,none⟩]) w:=by
 rcases Nat.eq_zero_or_pos cs.length with h0 | h0
 ·obtain rfl:cs=[]:=List.eq_nil_of_length_eq_zero h0
  have hle:N.le (N++[⟨b,o,x⟩]):=Nums.le_append _ _
  refine ⟨by simp [h.len],?_,?_,?_,?_,?_,?_,?_,h.imm,?_,?_,h.dlt,h.loc,h.res,h.chg,?_⟩
  ·intro i q hq
   rcases Nat.lt_or_ge i N.length with hi | hi
   ·rw [List.getElem?_append_left hi] at hq;exact h.lt i q hq
   ·rw [List.getElem?_append_right hi] at hq
    have hz:i-N.length=0:=by
     have:=(List.getElem?_eq_some_iff.1 hq).1
     simp at this;omega
    rw [hz] at hq;simp at hq;subst hq;exact hb
  ·intro i g q hg hq j d hj
   rcases get_snoc h.len hg hq with ⟨a,b⟩ | ⟨_,rfl,rfl⟩
   ·obtain ⟨v,h1,h2⟩:=h.cell i g q a b j d hj
    exact ⟨v,SV.den_mono hle d h1,h2⟩
   ·simp at hj
  ·intro i g q hg hq ho
   rcases get_snoc h.len hg hq with ⟨a,b⟩ | ⟨_,rfl,rfl⟩
   ·exact h.ext i g q a b ho
   ·cases ho
  ·intro i g q hg hq ho
   rcases get_snoc h.len hg hq with ⟨a,b⟩ | ⟨_,rfl,rfl⟩
   ·exact h.room i g q a b ho
   ·cases ho
  ·intro i i' g g' q q' hg hq hg' hq' ho hne j hj hb'
   rcases get_snoc h.len hg hq with ⟨a1,a2⟩ | ⟨a0,rfl,rfl⟩
   ·rcases get_snoc h.len hg' hq' with ⟨b1,b2⟩ | ⟨b0,rfl,rfl⟩
    ·exact h.disj i i' g g' q q' a1 a2 b1 b2 ho hne j hj hb'
    ·exact absurd hj (Nat.not_lt_zero j)
   ·cases ho
  ·intro i g q ob hg hq ho
   rcases get_snoc h.len hg hq with ⟨a,b⟩ | ⟨_,rfl,rfl⟩
   ·obtain ⟨⟨o',k1,k2⟩,k3⟩:=h.obj i g q ob a b ho
    exact ⟨⟨o',Ob.den_mono hle ob k1,k2⟩,k3⟩
   ·simp at ho
  ·intro i i' g g' q q' hg hq hg' hq' ho ho' hne
   rcases get_snoc h.len hg hq with ⟨a1,a2⟩ | ⟨a0,rfl,rfl⟩
   ·rcases get_snoc h.len hg' hq' with ⟨b1,b2⟩ | ⟨b0,rfl,rfl⟩
    ·exact h.odisj i i' g g' q q' a1 a2 b1 b2 ho ho' hne
    ·simp at ho'
   ·simp at ho
  ·intro i g q hg hq ho
   rcases get_snoc h.len hg hq with ⟨a,b⟩ | ⟨_,rfl,rfl⟩
   ·exact h.imd i g q a b ho
   ·cases ho
  ·intro i g q hg hq ho
   rcases get_snoc h.len hg hq with ⟨a,b⟩ | ⟨_,rfl,rfl⟩
   ·exact h.dd i g q a b ho
   ·cases ho
  ·intro i g q hg hq ho
   rcases get_snoc h.len hg hq with ⟨a,b⟩ | ⟨_,rfl,rfl⟩
   ·exact h.foot i g q a b ho
   ·cases ho
 ·exact Sat.addRo h hN (hs0 h0) hb hcs
theorem RoR.sat {E:Env} {N:Nums} {rg:List Rg} {w w':World} {cs:List SV} {n sz:Nat} {e:Ending} (hz:0<sz) (hf:RoR cs n w e w') (h:Sat E N rg w) :
  ∃ N' v,e=.returned v∧N.le N'∧(SV.osl rg.length 0 n sz none).den N'=some v∧Sat E N' (rg++[⟨false,cs,none⟩]) w':=by
 obtain ⟨b,o,c,he,h1,h2,h3,hc⟩:=hf
 have hget:(N++[⟨b,o,sz*c⟩]:Nums)[rg.length]?=some ⟨b,o,sz*c⟩:=by rw [←h.len];simp
 refine ⟨N++[⟨b,o,sz*c⟩],_,he,Nums.le_append _ _,by simp only [SV.den,hget,Num.cap,Nat.add_zero,Nat.sub_zero,Nat.mul_div_cancel_left _ hz],?_⟩
 exact Sat.addRoW (h.after0 hc) (s0:=w.heap.size) (fun r p hp=>h.lt r p hp) h1 h2 (fun j c hj=>by
  obtain ⟨v,k1,k2⟩:=h3 j c hj
  exact ⟨v,k1 N,k2⟩)
theorem bits_and (a b:Nat) (ha:a<2 ^ 64) (hb:b<2 ^ 64):bitsI .and .u64 a b=((a &&& b:Nat):Int):=by
 have h1:a &&& b<2 ^ 64:=Nat.lt_of_le_of_lt Nat.and_le_left ha
 show IntKind.u64.wrap (((BitVec.ofInt 64 (a:Int) &&& BitVec.ofInt 64 (b:Int)).toNat:Nat):Int)=_
 have e1:(BitVec.ofInt 64 (a:Int))=BitVec.ofNat 64 a:=by simp
 have e2:(BitVec.ofInt 64 (b:Int))=BitVec.ofNat 64 b:=by simp
 rw [wrap64,e1,e2,BitVec.toNat_and,BitVec.toNat_ofNat,BitVec.toNat_ofNat,Nat.mod_eq_of_lt ha,Nat.mod_eq_of_lt hb]
 omega
theorem bits_or (a b:Nat) (ha:a<2 ^ 64) (hb:b<2 ^ 64):bitsI .or .u64 a b=((a ||| b:Nat):Int):=by
 have h1:a ||| b<2 ^ 64:=Nat.or_lt_two_pow ha hb
 show IntKind.u64.wrap (((BitVec.ofInt 64 (a:Int) ||| BitVec.ofInt 64 (b:Int)).toNat:Nat):Int)=_
 have e1:(BitVec.ofInt 64 (a:Int))=BitVec.ofNat 64 a:=by simp
 have e2:(BitVec.ofInt 64 (b:Int))=BitVec.ofNat 64 b:=by simp
 rw [wrap64,e1,e2,BitVec.toNat_or,BitVec.toNat_ofNat,BitVec.toNat_ofNat,Nat.mod_eq_of_lt ha,Nat.mod_eq_of_lt hb]
 omega
theorem bits_xor (a b:Nat) (ha:a<2 ^ 64) (hb:b<2 ^ 64):bitsI .xor .u64 a b=((a ^^^ b:Nat):Int):=by
 have h1:a ^^^ b<2 ^ 64:=Nat.xor_lt_two_pow ha hb
 show IntKind.u64.wrap (((BitVec.ofInt 64 (a:Int) ^^^ BitVec.ofInt 64 (b:Int)).toNat:Nat):Int)=_
 have e1:(BitVec.ofInt 64 (a:Int))=BitVec.ofNat 64 a:=by simp
 have e2:(BitVec.ofInt 64 (b:Int))=BitVec.ofNat 64 b:=by simp
 rw [wrap64,e1,e2,BitVec.toNat_xor,BitVec.toNat_ofNat,BitVec.toNat_ofNat,Nat.mod_eq_of_lt ha,Nat.mod_eq_of_lt hb]
 omega
theorem shr_nat (x k:Nat):(x:Int).fdiv (2 ^ k)=((x / 2 ^ k:Nat):Int):=by
 have h:(0:Int)≤2 ^ k:=by exact_mod_cast Nat.zero_le (2 ^ k)
 rw [Int.fdiv_eq_ediv_of_nonneg _ h]
 have:((2:Int) ^ k)=((2 ^ k:Nat):Int):=by simp
 rw [this]
 exact (Int.natCast_ediv _ _).symm
theorem wrapU64 (n:Nat) (h:n<18446744073709551616):IntKind.u64.wrap (n:Int)=n:=by
 rw [wrap64]
 omega
theorem and127 (y:Nat) (h:y<9223372036854775808):bitsI .and .i64 (y:Int) 127=((y % 128:Nat):Int):=by
 have h1:y &&& 127=y % 128:=Nat.and_two_pow_sub_one_eq_mod y 7
 show IntKind.i64.wrap (((BitVec.ofInt 64 (y:Int) &&& BitVec.ofInt 64 ((127:Nat):Int)).toNat:Nat):Int)=_
 have e1:(BitVec.ofInt 64 (y:Int))=BitVec.ofNat 64 y:=by simp
 have e2:(BitVec.ofInt 64 ((127:Nat):Int))=BitVec.ofNat 64 127:=by simp
 rw [e1,e2,BitVec.toNat_and,BitVec.toNat_ofNat,BitVec.toNat_ofNat,Nat.mod_eq_of_lt (by omega),Nat.mod_eq_of_lt (show 127<2 ^ 64 by decide),h1]
 exact wrapN _ (by omega) (by omega)
theorem ones_ok (x:Nat) (w:World) (hx:x<2 ^ 64):Calls Tryz.prog 42 #[.int .u64 x] w fun e w'=>e=.returned (.int .i64 (popN 64 x))∧Chg (fun _ _=>False) w w':=by
 refine X.begin (rg:=[]) (N:=[]) (ss:=[.int .u64 (.nat x)]) Tryz.func42 rfl B42_ok rfl rfl Sat.std0 ?_
 refine X.go T42_ok 400 _ rfl Tryz.results42 ?_
 conv=>arg 2;cbv
 refine X.done T42_ok rfl (fun N w' v hN hS hv=>⟨fin_int hv ?_,hS.chg.none⟩)
 obtain ⟨a,ha⟩:∃ a,a=(x / 2 &&& 6148914691236517205)+(x &&& 6148914691236517205):=⟨_,rfl⟩
 obtain ⟨b,hb⟩:∃ b,b=(a / 4 &&& 3689348814741910323)+(a &&& 3689348814741910323):=⟨_,rfl⟩
 obtain ⟨c,hc⟩:∃ c,c=(b / 16+b) &&& 1085102592571150095:=⟨_,rfl⟩
 obtain ⟨d,hd⟩:∃ d,d=c+c / 256:=⟨_,rfl⟩
 obtain ⟨e,he⟩:∃ e,e=d+d / 65536:=⟨_,rfl⟩
 obtain ⟨⟨k1,k2,k3,k4,k5,k6⟩,k7⟩:=ones_law x hx a b c d e ha hb hc hd he
 have L1:(6148914691236517205:Int)=((6148914691236517205:Nat):Int):=rfl
 have L2:(3689348814741910323:Int)=((3689348814741910323:Nat):Int):=rfl
 have L3:(1085102592571150095:Int)=((1085102592571150095:Nat):Int):=rfl
 have A:IntKind.u64.wrap (bitsI .and .u64 ((x:Int).fdiv (2 ^ 1)) 6148914691236517205+bitsI .and .u64 x 6148914691236517205)=(a:Int):=by
  rw [shr_nat,L1,bits_and _ _ (by omega) (by decide),bits_and _ _ hx (by decide),←Int.natCast_add,←ha,wrapU64 a k1]
 have Bb:IntKind.u64.wrap (bitsI .and .u64 ((a:Int).fdiv (2 ^ 2)) 3689348814741910323+bitsI .and .u64 a 3689348814741910323)=(b:Int):=by
  rw [shr_nat,L2,bits_and _ _ (by omega) (by decide),bits_and _ _ k1 (by decide),←Int.natCast_add,←hb,wrapU64 b k2]
 have C:bitsI .and .u64 (IntKind.u64.wrap ((b:Int).fdiv (2 ^ 4)+b)) 1085102592571150095=(c:Int):=by
  rw [shr_nat,←Int.natCast_add,wrapU64 _ k3,L3,bits_and _ _ k3 (by decide),←hc]
 have Dd:IntKind.u64.wrap ((c:Int)+(c:Int).fdiv (2 ^ 8))=(d:Int):=by
  rw [shr_nat,←Int.natCast_add,←hd,wrapU64 d k4]
 have Ee:IntKind.u64.wrap ((d:Int)+(d:Int).fdiv (2 ^ 16))=(e:Int):=by
  rw [shr_nat,←Int.natCast_add,←he,wrapU64 e k5]
 have Ff:IntKind.u64.wrap ((e:Int)+(e:Int).fdiv (2 ^ 32))=((e+e / 4294967296:Nat):Int):=by
  rw [shr_nat,←Int.natCast_add,wrapU64 _ (by omega)]
 simp only [SI.den,A,Bb,C,Dd,Ee,Ff]
 rw [wrapN _ (by omega) (by omega),and127 _ k6,k7]
end Go.Proofs.YthpbefahaghbjaaGreat
