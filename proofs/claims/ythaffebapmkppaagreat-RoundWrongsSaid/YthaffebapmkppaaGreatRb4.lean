import Derived.Test.YthaffebapmkppaaGreatRi5
import Derived.Shelf.SlSorted.Search
import Derived.Laws.BytesArg
import Derived.Lib.Bytes
import Derived.Test.YthaffebapmkppaaGreatRe7
import Derived.Test.YthaffebapmkppaaGreatRg9
import Derived.Test.YthaffebapmkppaaGreatLaw
set_option maxHeartbeats 16000000
set_option maxRecDepth 100000
set_option cbv.maxSteps 100000000
namespace Go.Proofs.YthaffebapmkppaaGreat
open Go Go.Eng Go.Sort
theorem vk_arr {E:Env} {N0:Nums} {rg:List Rg} {f:Fr} {g:GK} {t e:TypeId} {x ix:Operand} {n z q r o c:Nat} {kd:IntKind} {s:SI} (hx:evK f g x=some (.own r o)) (hix:evK f g ix=some (.int kd s)) (hz:g.T→s.den=(z:Int)) (hu:E.P.underlying t=some (.array n e)) (hq:∀ w,(sizeOf e).run E.P w=.ok q w)
  (hlt:z<n) (hc:c=o+z*q) (hr:r<rg.length):ValOk E N0 rg f g (.indexAddr t x ix) (.own r c):=by
 intro ht N ρ op w hN0 hop hρ hV
 have h1:=hρ _ _ hx
 have h2:=hρ _ _ hix
 obtain ⟨p,hp⟩:∃ p,N[r]?=some p:=⟨_,List.getElem?_eq_getElem (by have:=hV.1.len;omega)⟩
 simp only [SV.den,hp,hz ht,Option.some.injEq] at h1 h2
 refine ⟨.pointer (some ⟨p.b,p.o+c,none⟩),by simp only [SV.den,hp],fun w' _=>?_⟩
 simp only [execOp,hop,←h1,←h2,Sem.run_bind,Result.andThen,Sem.run_pure]
 have hz':(z:Int)<n:=by omega
 simp [Instr.indexAt,asIntOf,run_underlying hu,Instr.sureAddr,Result.andThen,hlt,hq,addr_add,hc,Nat.add_assoc]
theorem vk_load1 {E:Env} {N0:Nums} {rg:List Rg} {f:Fr} {g:GK} {t:TypeId} {x:Operand} {r c:Nat} {gg:Rg} {rs:SV} (hx:evK f g x=some (.own r c)) (ha:∀ w,(isAgg t).run E.P w=.ok false w) (hr:rg[r]?=some gg) (hc:gg.cells[c]?=some rs):ValOk E N0 rg f g (.load t x) rs:=by
 intro _ N ρ o w hN0 hop hρ hV
 have h1:=hρ _ _ hx
 obtain ⟨p,hp⟩:∃ p,N[r]?=some p:=⟨_,List.getElem?_eq_getElem (Nat.lt_of_lt_of_le (List.getElem?_eq_some_iff.1 hr).1 hV.1.len)⟩
 simp only [SV.den,hp,Option.some.injEq] at h1
 obtain ⟨v,hv,_⟩:=hV.1.cell r gg p hr hp c rs hc
 refine ⟨v,hv,fun w' hV'=>?_⟩
 obtain ⟨v',hv',hc'⟩:=hV'.1.cell r gg p hr hp c rs hc
 rw [hv] at hv';cases hv'
 simp only [execOp,hop,←h1,Instr.loadAt,Instr.sureAddr,loadVar,Sem.run_bind,Sem.run_pure,Result.andThen,ha,Bool.false_eq_true,if_false]
 simp [hc']
theorem vk_rem {E:Env} {N0:Nums} {rg:List Rg} {f:Fr} {g:GK} {t ty:TypeId} {x y:Operand} {kd:IntKind} {s1 s2 r:SI} (hx:evK f g x=some (.int kd s1)) (hy:evK f g y=some (.int kd s2)) (hz:g.T→s2.den≠0∧r.den=s1.den.tmod s2.den):ValOk E N0 rg f g (.binOp .rem t x y ty) (.int kd r):=by
 intro ht N ρ o w hN0 hop hρ hV
 have h1:=hρ _ _ hx
 have h2:=hρ _ _ hy
 simp only [SV.den,Option.some.injEq] at h1 h2
 obtain ⟨hne,hr⟩:=hz ht
 refine ⟨.int kd r.den,rfl,fun w' _=>?_⟩
 have h3:(do eqGuard .rem t x y (ρ x) (ρ y);binOp .rem t (ρ x) (ρ y):Sem Value).run E.P w'=.ok (.int kd r.den) w':=by
  rw [←h1,←h2]
  simp only [Sem.run_bind]
  rw [eqGuard_none _ _ _ _ (by simp) (by simp)]
  simp [Result.andThen,binOp,Op.intDiv,hne,hr]
 simp only [execOp,hop]
 rw [Sem.run_bind,h3]
 rfl
theorem oe_store {T:Tab} {n:Nat} {all:Array Oper} {i:Nat} {s:St} {o:Oper} {t:TypeId} {x y:Operand} {r c:Nat} {v:SV} {ti:TI} {g:Rg} {cs':List SV} (ho:nth all.toList i=some o) (hsu:sure all s.fr o=true) (hop:o.op=.store t x y) (hd:o.dst=none) (hx:ev s.fr x=some (.own r c)) (hy:ev s.fr y=some v) (ht:lookT T t=some ti)
  (hg:nth s.rg r=some g) (hown:g.own=true) (hl:Nat.beq v.cells.length ti.size=true) (hle:c+ti.size≤g.cells.length) (h1:v.cells.all SV.one=true) (hcs:setRow g.cells c v.cells=cs'):OpEq T n all i s ⟨s.fr,s.rg.set r { g with cells:=cs' }⟩:=by
 refine ⟨?_⟩
 have hble:Nat.ble (c+ti.size) g.cells.length=true:=Nat.ble_eq_true_of_le hle
 simp only [opE,ho,hsu,cond_true,hop,stepE,hx,hy,ht,hg,hown,hl,hble,h1,Bool.and_self,hcs,hd,putO]
def past (k r:Nat):Nat:=if r<k then r else r+1
theorem past_get {α:Type} {A B:List α} {x v:α} {r:Nat} (h:(A++B)[r]?=some v):(A++x::B)[past A.length r]?=some v:=by
 unfold past
 by_cases hr:r<A.length
 ·rw [if_pos hr,List.getElem?_append_left hr]
  rwa [List.getElem?_append_left hr] at h
 ·rw [if_neg hr,List.getElem?_append_right (by omega)]
  rw [List.getElem?_append_right (by omega)] at h
  rw [show r+1-A.length=(r-A.length)+1 by omega,List.getElem?_cons_succ]
  exact h
theorem past_inj {k r r':Nat} (h:r≠r'):past k r≠past k r':=by unfold past;split<;>split<;>omega
theorem Sat.dropAt {E:Env} {A B:Nums} {x:Num} {rA rB:List Rg} {g0:Rg} {w:World} (hl:A.length=rA.length) (h:Sat E (A++x::B) (rA++g0::rB) w) (hc:∀ g∈rA++rB,∀ c∈g.cells,∀ v,c.den (A++x::B)=some v→c.den (A++B)=some v) (hob:∀ g∈rA++rB,g.ob=none):Sat E (A++B) (rA++rB) w:=by
 have gs:∀ {r:Nat} {g:Rg},(rA++rB)[r]?=some g→(rA++g0::rB)[past A.length r]?=some g:=fun h=>by rw [hl];exact past_get h
 have ns:∀ {r:Nat} {p:Num},(A++B)[r]?=some p→(A++x::B)[past A.length r]?=some p:=fun h=>past_get h
 refine ⟨by have:=h.len;simp at this ⊢;omega,fun r p hp=>h.lt _ p (ns hp),fun r g p hg hp j c hj=>?_,fun r g p hg hp=>h.ext _ g p (gs hg) (ns hp),fun r g p hg hp=>h.room _ g p (gs hg) (ns hp),
  fun r r' g g' p p' hg hp hg' hp' ho hne=>h.disj _ _ g g' p p' (gs hg) (ns hp) (gs hg') (ns hp') ho (past_inj hne),fun r g p ob hg hp ho=>?_,fun r r' g g' p p' hg hp hg' hp' ho _ _=>?_,h.imm,fun r g p hg hp=>h.imd _ g p (gs hg) (ns hp),fun r g p hg hp=>h.dd _ g p (gs hg) (ns hp),h.dlt,h.loc,h.res,h.chg,fun r g p hg hp=>h.foot _ g p (gs hg) (ns hp)⟩
 ·obtain ⟨v,h1,h2⟩:=h.cell _ g p (gs hg) (ns hp) j c hj
  exact ⟨v,hc g (List.mem_of_getElem? hg) c (List.mem_of_getElem? hj) v h1,h2⟩
 ·rw [hob g (List.mem_of_getElem? hg)] at ho;cases ho
 ·rw [hob g (List.mem_of_getElem? hg)] at ho;cases ho
theorem X.dropAt {E:Ctx} {k:List It} (h0:E.N0=[]) {f:Fr} (f':Fr) (rA:List Rg) {g0:Rg} {rB:List Rg} (hs:∀ (A:Nums) x B,A.length=rA.length→Sh (A++x::B) (A++B) f f') (hc:∀ g∈rA++rB,∀ c∈g.cells,∀ (N N':Nums) (v:Value),c.den N=some v→c.den N'=some v) (hob:∀ g∈rA++rB,g.ob=none) (h:X E k ⟨f',rA++rB⟩):X E k ⟨f,rA++g0::rB⟩:=by
 refine X.conv fun N a w hN hf hS=>?_
 have hlen:=hS.len
 obtain ⟨A,R,rfl,hA⟩:∃ A R,N=A++R∧A.length=rA.length:=⟨N.take rA.length,N.drop rA.length,(List.take_append_drop _ _).symm,by simp at hlen ⊢;omega⟩
 cases R with
 | nil=>simp at hlen;omega
 | cons x B=>exact ⟨E,⟨f',rA++rB⟩,rfl,rfl,rfl,rfl,⟨A++B,by rw [h0];exact fun r p h=>by simp at h,hf.sh (hs A x B hA),Sat.dropAt hA hS (fun g hg c hc' v=>hc g hg c hc' _ _ v) hob⟩,h⟩
theorem len3 {α:Type} {l:List α} (h:l.length=3):∃ a b c,l=[a,b,c]:=by
 match l,h with
 | [a,b,c],_=>exact ⟨a,b,c,rfl⟩
def PtIn (b o:Nat) (L:List (Int × Int)) (w:World):Prop:=∀ j,j<L.length→w.cell? ⟨b,o+j*2,none⟩=some (.int .u64 L[j]!.1)∧w.cell? ⟨b,o+j*2+1,none⟩=some (.int .u8 L[j]!.2)
theorem PtIn.of {b o:Nat} {L:List (Int × Int)} {w:World} (h:HoldsK ptC 2 w b o L.toArray):PtIn b o L w:=fun j hj=>by
 have h1:=(h (j*2) (by rw [size_flatK];simp;omega)).1
 have h2:=(h (j*2+1) (by rw [size_flatK];simp;omega)).1
 rw [get_flatK _ _ _ _ (by simp;omega)] at h1 h2
 rw [show j*2 / 2=j by omega,show j*2 % 2=0 by omega] at h1
 rw [show (j*2+1) / 2=j by omega,show (j*2+1) % 2=1 by omega] at h2
 have e:L.toArray[j]! = L[j]! := by simp
 rw [e] at h1 h2
 exact ⟨h1,h2⟩
theorem PtIn.stays {b o:Nat} {L:List (Int × Int)} {w w':World} (h:PtIn b o L w) (hc:Chg (fun _ _=>False) w w'):PtIn b o L w':=fun j hj=>⟨cell_of_chg hc (fun h=>h) (h j hj).1,cell_of_chg hc (fun h=>h) (h j hj).2⟩
theorem keep1_ok (b o m c i b3 o3 b7 o7:Nat) (p:Option Addr) (kh:Int) (L:List (Int × Int)) (w:World) (hp:p=some ⟨b,o,none⟩) (hm:L.length=m) (hi:i<m) (hbig:m<4611686018427387904) (hL:PtIn b o L w)
  (h3:w.cell? ⟨b3,o3,none⟩=some (.slice p m c)) (h7:w.cell? ⟨b7,o7,none⟩=some (.int .u64 kh)) :
  Calls Tryz.prog 164 #[.int .i64 i,.pointer (some ⟨b3,o3,none⟩),.pointer (some ⟨b7,o7,none⟩)] w fun e w'=>e=.returned (.bool (decide (kh≤L[i]!.1)))∧Chg (fun _ _=>False) w w':=by
 obtain ⟨h,hh⟩:∃ h,h=L[i]!.1:=⟨_,rfl⟩
 rw [←hh]
 refine X.begin (rg:=[]) (N:=[]) (ss:=[.int .i64 (.nat i),.ext b3 o3 0,.ext b7 o7 0]) Tryz.func164 rfl B164_ok rfl rfl Sat.std0 ?_
 obtain ⟨oi,hoi⟩:∃ q,q=o+i*2:=⟨_,rfl⟩
 have e3:elsewhere [] [] w b3 (o3+0)=some (.slice p m c):=by rw [els_old];exact h3
 have e7:elsewhere [] [] w b7 (o7+0)=some (.int .u64 kh):=by rw [els_old];exact h7
 have ei:elsewhere [] [] w b (oi+0)=some (.int .u64 h):=by rw [els_old,hoi,hh];exact (hL i (by omega)).1
 refine X.goP ([(5,.slv p m c),(7,.ext b oi 0),(9,.int .u64 (.v h)),(10,.int .u64 (.v kh))]) T164_ok 400 _ rfl Tryz.results164 (fun pr fin hpr hfin=>?_)
 conv=>cbv
 refine ⟨hpr _ (ValOk.im1 rfl Tryz.isAgg22 (fun _=>rfl) fun _=>e7),hpr _ (ValOk.im1 rfl Tryz.isAgg22 (fun _=>rfl) fun _=>ei),hpr _ (ValOk.at (z:=i) rfl rfl (fun _=>rfl) Tryz.underlying170 Tryz.sizeOf205 (fun _=>hi) hp hoi),hpr _ (ValOk.im1 rfl Tryz.isAgg170 (fun _=>rfl) fun _=>e3),hfin _ _ ?_⟩
 refine X.done T164_ok rfl (fun N w' v hN hS hv=>⟨fin_bool hv ?_,hS.chg.mono fun k o _ h=>inR_nil h⟩)
 simp only [SB.den,SI.den]
 exact decide_eq_decide.2 Iff.rfl
def atP (L:List (Int × Int)) (kh:Int):Nat:=(List.range L.length).countP fun i=>!decide (kh≤L[i]!.1)
theorem atP_le (L:List (Int × Int)) (kh:Int):atP L kh≤L.length:=by
 have:=List.countP_le_length (p:=fun i=>!decide (kh≤L[i]!.1)) (l:=List.range L.length)
 simpa [atP] using this
def Rise (L:List (Int × Int)):Prop:=∀ a b,a≤b→b<L.length→L[a]!.1≤L[b]!.1
theorem search_ok (b o m c b3 o3 b7 o7:Nat) (p:Option Addr) (kh:Int) (L:List (Int × Int)) (w:World) (hp:0<m→p=some ⟨b,o,none⟩) (hm:L.length=m) (hbig:m<4611686018427387904) (hL:PtIn b o L w) (hR:Rise L)
  (h3:w.cell? ⟨b3,o3,none⟩=some (.slice p m c)) (h7:w.cell? ⟨b7,o7,none⟩=some (.int .u64 kh)) :
  Calls Tryz.prog 163 #[.int .i64 m,.func (.func 164) #[] #[.pointer (some ⟨b3,o3,none⟩),.pointer (some ⟨b7,o7,none⟩)]] w fun e w'=>e=.returned (.int .i64 (atP L kh))∧Chg (fun _ _=>False) w w':=by
 have key:=Any.sort_Search Tryz.searchL 164 #[.pointer (some ⟨b3,o3,none⟩),.pointer (some ⟨b7,o7,none⟩)] m (fun i=>decide (kh≤L[i]!.1)) w (enters_of Tryz.func164 (by kernel_rfl) rfl) hbig (fun q os i hi=>by
  have hc:Chg (fun _ _=>False) w (Go.Sort.grow (w.drewN q) os):=(Chg.drewN q).trans (chg_grow _ os) fun _ _ _ h=>h
  exact (keep1_ok b o m c i b3 o3 b7 o7 p kh L _ (hp (by omega)) hm hi hbig (hL.stays hc) (cell_of_chg hc (fun h=>h) h3) (cell_of_chg hc (fun h=>h) h7)).mono fun _ _ ⟨h1,h2⟩=>⟨h1,h2.grown⟩) (fun a b hab hb ha=>by
  have:=hR a b hab (by omega)
  have ha:kh≤L[a]!.1:=of_decide_eq_true ha
  exact decide_eq_true (by omega))
 refine Calls.mono key fun e w' ⟨he,q,os,hw⟩=>⟨?_,?_⟩
 ·rw [he,atP,hm]
 ·rw [hw]
  exact (Chg.drewN q).trans (chg_grow _ os) fun _ _ _ h=>h
def keepGo (R:Nat→Int) (many:Int):Nat→Nat→List Int→List Int
 | 0,_,out=>out
 | k+1,i,out=>if many≤out.length then out else keepGo R many k (i+1) (if R i∈out then out else out++[R i])
def nodeAt (L:List (Int × Int)) (s i:Nat):Int:=L[(s+i) % L.length]!.2
def keepL (L:List (Int × Int)) (key many:Int):List Int:=keepGo (nodeAt L (atP L (keyZ key))) many L.length 0 []
def BytRet (l:List Int) (w:World) (e:Ending) (w':World):Prop :=
 ∃ p c,e=.returned (.slice p l.length c)∧l.length≤c∧(l=[]∧p=none∧c=0∨l≠[]∧∃ b o,p=some ⟨b,o,none⟩∧w.heap.size≤b∧AtA w' b o l.toArray)∧Chg (fun _ _=>False) w w'
def bytL (l:List Int):List SV:=l.map fun x=>.int .u8 (.v x)
def outV (l:List Int):SV:=match l with | []=>.raw (.slice none 0 0) | _::_=>.osl 3 0 l.length 1 none
def outR (l:List Int):List Rg:=match l with | []=>[] | _::_=>[⟨true,bytL l,none⟩]
theorem outV_pos {l:List Int} (h:l≠[]):outV l=.osl 3 0 l.length 1 none:=by cases l with | nil=>exact absurd rfl h | cons=>rfl
theorem outR_pos {l:List Int} (h:l≠[]):outR l=[⟨true,bytL l,none⟩]:=by cases l with | nil=>exact absurd rfl h | cons=>rfl
theorem bytL_bd {l:List Int} {m:Nat}:(bytL l).all (bd m)=true:=List.all_eq_true.2 fun c hc=>by
 obtain ⟨x,_,rfl⟩:=List.mem_map.1 hc;rfl
theorem bytL_den {l:List Int} {c:SV} {N N':Nums} {v:Value} (h:c∈bytL l) (hv:c.den N=some v):c.den N'=some v:=by
 obtain ⟨x,_,rfl⟩:=List.mem_map.1 h;exact hv
theorem bytL_len (l:List Int):(bytL l).length=l.length:=by simp [bytL]
def hadB (l:List Int) (x:Nat):Bool:=decide ((x:Int)∈l)
def hadL (l:List Int):List SV:=(List.range 256).map fun x=>.bool (.v (hadB l x))
theorem hadL_len (l:List Int):(hadL l).length=256:=by simp [hadL]
theorem hadL_at (l:List Int) {x:Nat} (h:x<256):(hadL l)[x]?=some (.bool (.v (hadB l x))):=by simp [hadL,h]
theorem hadL_get {l:List Int} {x:Nat} {c:SV} (h:(hadL l)[x]?=some c):x<256∧c=.bool (.v (hadB l x)):=by
 have hx:x<256:=by
  have:=(List.getElem?_eq_some_iff.1 h).1
  rwa [hadL_len] at this
 rw [hadL_at l hx] at h
 exact ⟨hx,(Option.some.inj h).symm⟩
theorem hadL_bd {l:List Int} {m:Nat}:(hadL l).all (bd m)=true:=List.all_eq_true.2 fun c hc=>by
 obtain ⟨x,_,rfl⟩:=List.mem_map.1 hc;rfl
theorem hadL_den {l:List Int} {c:SV} {N N':Nums} {v:Value} (h:c∈hadL l) (hv:c.den N=some v):c.den N'=some v:=by
 obtain ⟨x,_,rfl⟩:=List.mem_map.1 h;exact hv
structure KG (m:Nat) (R:Nat→Int) (many:Int) (F:List Int) (i:Nat) (out:List Int):Prop where
 le:i≤m
 go:keepGo R many (m-i) i out=F
 len:out.length≤i
theorem keepers_ok (b o m c:Nat) (p:Option Addr) (L:List (Int × Int)) (key many:Int) (w:World) (hp:0<m→p=some ⟨b,o,none⟩) (hm:L.length=m) (hle:m≤8000) (hL:PtIn b o L w) (hR:Rise L) (hN:∀ x∈L,0≤x.2∧x.2<256) :
  Calls Tryz.prog 130 #[.slice p m c,.int .u8 key,.int .i64 many] w (BytRet (keepL L key many) w):=by
 obtain ⟨kh,hkh⟩:∃ k,k=keyZ key:=⟨_,rfl⟩
 obtain ⟨s0,hs0⟩:∃ s,s=atP L kh:=⟨_,rfl⟩
 have hs0m:s0≤m:=by rw [hs0,←hm];exact atP_le L kh
 obtain ⟨R,hRR⟩:∃ R,R=nodeAt L s0:=⟨_,rfl⟩
 obtain ⟨F,hF⟩:∃ F,F=keepL L key many:=⟨_,rfl⟩
 have hFg:keepGo R many m 0 []=F:=by rw [hF,keepL,←hkh,←hs0,←hRR,hm]
 rw [←hF]
 refine X.begin (rg:=[]) (N:=[]) (ss:=[.slv p m c,.int .u8 (.v key),.int .i64 (.v many)]) Tryz.func130 rfl B130_ok rfl rfl Sat.std0 ?_
 obtain ⟨im,him⟩:∃ im,im=elsewhere [] [] w:=⟨_,rfl⟩
 show X (mkE Tryz.prog Tryz.f130 (BytRet F w) w (InR [] []) (elsewhere [] [] w) (fun _ _=>False) (fun _=>True) [] B130) _ _
 rw [←him]
 refine X.goP ([(14,.int .u64 (.v kh))]) T130_ok 400 _ rfl Tryz.results130 (fun pr fin hpr hfin=>?_)
 conv=>cbv
 refine ⟨hpr _ (.of Tryz.call162 [.int .u8 key] (.int .u64 kh) (fun _=>rfl) (fun _=>rfl) fun _ w1 _=>by rw [hkh];exact key_ok key w1),hfin _ _ ?_⟩
 refine X.call rfl rfl rfl rfl Tryz.call163 (fun N w1 args hN1 hS ha=>?_)
 obtain ⟨q3,hq3⟩:∃ p,N[0]?=some p:=⟨_,List.getElem?_eq_getElem (by rw [hS.len];simp)⟩
 obtain ⟨q7,hq7⟩:∃ p,N[1]?=some p:=⟨_,List.getElem?_eq_getElem (by rw [hS.len];simp)⟩
 obtain ⟨_,e3,c3⟩:=hS.cell 0 _ q3 rfl hq3 0 _ rfl
 obtain ⟨_,e7,c7⟩:=hS.cell 1 _ q7 rfl hq7 0 _ rfl
 simp only [SV.den,SI.den,Option.some.injEq] at e3 e7
 subst e3 e7
 have ha:args=[.int .i64 m,.func (.func 164) #[] #[.pointer (some ⟨q3.b,q3.o+0,none⟩),.pointer (some ⟨q7.b,q7.o+0,none⟩)]]:=by
  simp only [SV.denL,SV.den,SI.den,hq3,hq7] at ha
  exact (Option.some.inj ha).symm
 rw [ha]
 refine (search_ok b o m c _ _ _ _ p kh L w1 hp hm (by omega) (hL.stays hS.chg.none) hR c3 c7).mono fun e w2 ⟨he,hch⟩=>⟨_,he,?_⟩
 rw [←hs0]
 refine Goes.same hN1 hS hch (r:=.int .i64 (.nat s0)) rfl rfl ?_
 clear ha c3 c7 hq3 hq7 hS hN1
 refine X.go T130_ok 400 _ rfl Tryz.results130 ?_
 conv=>arg 2;cbv
 refine X.recell 2 ⟨true,List.replicate 256 (.bool (.lit false)),none⟩ (hadL []) rfl (by rw [hadL_len];rfl) (fun N _ j c c' h1 h2 v hv=>?_) ?_
 ·obtain ⟨_,rfl⟩:=hadL_get h2
  have:c=.bool (.lit false):=by
   have:=List.mem_of_getElem? h1
   simpa using (List.mem_replicate.1 this).2
  subst this
  rw [←hv]
  simp [SV.den,SB.den,hadB]
 show X (mkE Tryz.prog Tryz.f130 (BytRet F w) w (InR [] []) im (fun _ _=>False) (fun _=>True) [] B130) _ ⟨_,[⟨true,[.slv p m c],none⟩,⟨true,[.int .u64 (.v kh)],none⟩,⟨true,hadL [],none⟩]⟩
 refine X.loop (fun _:{g:Nat × List Int // KG m R many F g.1 g.2}=>mkE Tryz.prog Tryz.f130 (BytRet F w) w (InR [] []) im (fun _ _=>False) (fun _=>True) [] B130)
  (fun g=>⟨[(2,.val (.int .i64 (.v many))),(3,.val (.own 0 0)),(8,.val (.int .i64 (.nat s0))),(9,.val (.own 2 0)),(10,.val (outV g.1.2)),(20,.val (.int .i64 (.nat m))),(21,.val (.int .i64 (.nat g.1.1)))],⟨true,[.slv p m c],none⟩::⟨true,[.int .u64 (.v kh)],none⟩::⟨true,hadL g.1.2,none⟩::outR g.1.2⟩) (fun g=>m-g.1.1) (fun _=>⟨rfl,rfl,rfl,rfl⟩) (fun N ac w' hN hf hS=>⟨⟨(0,[]),⟨Nat.zero_le _,hFg,Nat.le_refl _⟩⟩,?_⟩) (fun g q hq=>?_)
 ·show At (mkE Tryz.prog Tryz.f130 (BytRet F w) w (InR [] []) im (fun _ _=>False) (fun _=>True) [] B130) ⟨[(2,.val (.int .i64 (.v many))),(3,.val (.own 0 0)),(8,.val (.int .i64 (.nat s0))),(9,.val (.own 2 0)),(10,.val (.raw (.slice none 0 0))),(20,.val (.int .i64 (.nat m))),(21,.val (.int .i64 (.nat 0)))],[⟨true,[.slv p m c],none⟩,⟨true,[.int .u64 (.v kh)],none⟩,⟨true,hadL [],none⟩]⟩ ac w'
  exact At.again hf hS (by repeat first | exact trivial | refine ⟨⟨_,rfl,.inl ⟨rfl,rfl⟩⟩,?_⟩ | refine ⟨⟨_,rfl,.inr ⟨_,rfl,rfl⟩⟩,?_⟩ | refine ⟨⟨_,rfl,.inr ⟨_,rfl,by simp (disch:=omega) [SV.den,SI.den,wrapU,wrapD]<;>omega⟩⟩,?_⟩) ⟨fun h=>h,SubC.refl rfl,rfl,fun h=>h,SubC.refl rfl,rfl,fun h=>h,SubC.refl hadL_bd,rfl,trivial⟩
 obtain ⟨⟨i,l⟩,him1,hgo,hlen⟩:=g
 simp only at him1 hgo hlen
 show X (mkE Tryz.prog Tryz.f130 (BytRet F w) w (InR [] []) im (fun _ _=>False) (fun _=>True) [] B130) _ ⟨[(2,.val (.int .i64 (.v many))),(3,.val (.own 0 0)),(8,.val (.int .i64 (.nat s0))),(9,.val (.own 2 0)),(10,.val (outV l)),(20,.val (.int .i64 (.nat m))),(21,.val (.int .i64 (.nat i)))],⟨true,[.slv p m c],none⟩::⟨true,[.int .u64 (.v kh)],none⟩::⟨true,hadL l,none⟩::outR l⟩
 obtain ⟨hd,hhd⟩:∃ h,h=hadL l:=⟨_,rfl⟩
 have hbd:∀ m,hd.all (bd m)=true:=fun m=>by rw [hhd];exact hadL_bd
 rw [←hhd]
 by_cases hz:l=[]
 ·skip
  rw [hz] at hhd hgo hlen ⊢
  show X (mkE Tryz.prog Tryz.f130 (BytRet F w) w (InR [] []) im (fun _ _=>False) (fun _=>True) [] B130) _ ⟨[(2,.val (.int .i64 (.v many))),(3,.val (.own 0 0)),(8,.val (.int .i64 (.nat s0))),(9,.val (.own 2 0)),(10,.val (.raw (.slice none 0 0))),(20,.val (.int .i64 (.nat m))),(21,.val (.int .i64 (.nat i)))],[⟨true,[.slv p m c],none⟩,⟨true,[.int .u64 (.v kh)],none⟩,⟨true,hd,none⟩]⟩
  refine X.go T130_ok 400 _ rfl Tryz.results130 ?_
  conv=>arg 2;cbv
  refine X.cond rfl (fun hlt=>?_) (fun hge=>?_)
  ·simp only [SB.T,SI.den] at hlt
   have hlt:i<m:=by omega
   have hmi:m-i=(m-(i+1))+1:=by omega
   rw [hmi,keepGo] at hgo
   refine X.go T130_ok 400 _ rfl Tryz.results130 ?_
   conv=>arg 2;cbv
   refine X.cond rfl (fun hfull=>?_) (fun hroom=>?_)
   ·simp only [SB.T,SI.den] at hfull
    have hfull:many≤(0:Int):=hfull
    refine X.go T130_ok 400 _ rfl Tryz.results130 ?_
    conv=>arg 2;cbv
    have hFl:F=[]:=by rw [if_pos (by simpa using hfull)] at hgo;exact hgo.symm
    refine X.done T130_ok rfl (fun N w' v hN hS hv=>?_)
    simp [resV,SV.den,one?] at hv
    exact ⟨none,0,by rw [←hv,hFl];rfl,by rw [hFl];exact Nat.le_refl _,.inl ⟨hFl,rfl,rfl⟩,hS.chg.none⟩
   ·simp only [SB.F,SI.den] at hroom
    have hroom:¬many≤(0:Int):=fun h=>absurd h (by have hr:=hroom;simpa using hr)
    rw [if_neg (by simpa using hroom)] at hgo
    obtain ⟨z,hz1⟩:∃ z,z=(s0+i) % m:=⟨_,rfl⟩
    have hzm:z<m:=by rw [hz1];exact Nat.mod_lt _ (by omega)
    obtain ⟨oz,hoz⟩:∃ q,q=o+z*2:=⟨_,rfl⟩
    have hRi:R i=L[z]!.2:=by rw [hRR,nodeAt,hm,hz1]
    obtain ⟨x,hx⟩:∃ x,x=R i:=⟨_,rfl⟩
    obtain ⟨xz,hxz,hx256⟩:∃ y:Nat,x=(y:Int)∧y<256:=by
     have hmem:L[z]! ∈ L:=by rw [getElem!_pos L z (by omega)];exact List.getElem_mem _
     have:=hN _ hmem
     exact ⟨x.toNat,by omega,by omega⟩
    rw [←hx] at hgo
    have hix:im b (oz+1)=some (.int .u8 x):=by rw [him,els_old,hoz,hx,hRi];exact (hL z (by omega)).2
    obtain ⟨t,ht⟩:∃ t,t=hadB [] xz:=⟨_,rfl⟩
    have hdx:hd[xz]?=some (.bool (.v t)):=by rw [hhd,ht];exact hadL_at _ hx256
    refine X.goP ([(34,.int .i64 (.nat z)),(35,.ext b oz 0),(37,.int .u8 (.v x)),(39,.own 2 xz),(40,.bool (.v t))]) T130_ok 400 _ rfl Tryz.results130 (fun pr fin hpr hfin=>?_)
    conv=>cbv
    refine ⟨hpr _ (vk_load1 rfl Tryz.isAgg4 rfl hdx),hpr _ (vk_arr (z:=xz) rfl rfl (fun _=>hxz) Tryz.underlying243 Tryz.sizeOf4 hx256 (by omega) (Nat.lt_of_sub_eq_succ rfl)),hpr _ (ValOk.im1 rfl Tryz.isAgg5 (fun _=>rfl) fun _=>hix),hpr _ (ValOk.at (z:=z) rfl rfl (fun _=>rfl) Tryz.underlying170 Tryz.sizeOf205 (fun _=>hzm) (hp (by omega)) hoz),hpr _ (vk_rem rfl rfl (fun _=>by simp (disch:=omega) only [SI.den,wrapN];exact ⟨by omega,by rw [hz1];rfl⟩)),hfin _ _ ?_⟩
    refine X.cond rfl (fun hnew=>?_) (fun hold=>?_)
    ·simp only [SB.T,SB.F] at hnew
     have htf:t=false:=by simpa using hnew
     have hnm:¬x∈([]:List Int):=by simp
     rw [if_neg hnm] at hgo
     refine X.goP ([(43,.own 2 xz)]) T130_ok 4 _ rfl Tryz.results130 (fun pr fin hpr hfin=>?_)
     conv=>cbv
     refine ⟨hpr _ (vk_arr (z:=xz) rfl rfl (fun _=>hxz) Tryz.underlying243 Tryz.sizeOf4 hx256 (by omega) (Nat.lt_of_sub_eq_succ rfl)),hfin _ _ ?_⟩
     have hdl:hd.length=256:=by rw [hhd];exact hadL_len _
     refine X.opEq T130_ok (oe_store (v:=.bool (.lit true)) (g:=⟨true,hd,none⟩) (cs':=setRow hd xz [.bool (.lit true)]) rfl rfl rfl rfl rfl rfl rfl rfl rfl rfl (by show xz+1≤hd.length;omega) rfl rfl) ?_
     refine X.recell 2 ⟨true,setRow hd xz [.bool (.lit true)],none⟩ (hadL ([]++[x])) rfl (by rw [hadL_len,setRow_length _ _ _ (by omega)];simp;omega) (fun N _ j c c' h1 h2 v hv=>?_) ?_
     ·obtain ⟨hj,rfl⟩:=hadL_get h2
      simp only at h1
      rw [setRow_at _ _ _ _ (by simp;omega)] at h1
      by_cases e:j=xz
      ·subst e
       rw [if_pos (by simp),Nat.sub_self] at h1
       obtain rfl:c=.bool (.lit true):=(Option.some.inj h1).symm
       rw [←hv]
       simp [SV.den,SB.den,hadB,hxz]
      ·rw [if_neg (by simp;omega),hhd,hadL_at _ hj] at h1
       obtain rfl:=(Option.some.inj h1).symm
       have hne:¬(j:Int)=x:=by omega
       rw [←hv]
       simp [SV.den,SB.den,hadB,hne]
     obtain ⟨hd2,hhd2⟩:∃ h,h=hadL ([]++[x]):=⟨_,rfl⟩
     rw [←hhd2]
     have hbd2:∀ m,hd2.all (bd m)=true:=fun m=>by rw [hhd2];exact hadL_bd
     show X (mkE Tryz.prog Tryz.f130 (BytRet F w) w (InR [] []) im (fun _ _=>False) (fun _=>True) [] B130) _ ⟨_,[⟨true,[.slv p m c],none⟩,⟨true,[.int .u64 (.v kh)],none⟩,⟨true,hd2,none⟩]⟩
     refine X.go T130_ok 5 _ rfl Tryz.results130 ?_
     conv=>arg 2;cbv
     refine X.opEq (T:=T130) T130_ok (opE_append (te:=ti5) (new:=[.int .u8 (.v x)]) (m:=1) rfl rfl rfl rfl rfl rfl rfl rfl (appSrc_row (g:=⟨true,[.int .u8 (.v x)],none⟩) rfl rfl rfl rfl) (appV_nil (by decide) (appOk_ok (by decide) rfl rfl rfl (by decide) (by decide))) rfl) ?_
     refine X.go T130_ok 400 _ rfl Tryz.results130 ?_
     conv=>arg 2;cbv
     refine X.less [2,3,8,9,10,20,21] ?_
     refine X.dropAt rfl [(21,.val (.int .i64 (.wrap .i64 (.add (.nat i) (.lit 1))))),(10,.val (.osl 3 0 1 1 none)),(2,.val (.int .i64 (.v many))),(3,.val (.own 0 0)),(8,.val (.int .i64 (.nat s0))),(9,.val (.own 2 0)),(20,.val (.int .i64 (.nat m)))] [⟨true,[.slv p m c],none⟩,⟨true,[.int .u64 (.v kh)],none⟩,⟨true,hd2,none⟩] (rB:=[⟨true,[.int .u8 (.v x)],none⟩]) (fun A x B hA=>by obtain ⟨a1,a2,a3,rfl⟩:=len3 hA;exact ⟨rfl,fun _ h=>h,rfl,fun _ h=>h,rfl,fun _ h=>h,rfl,fun _ h=>h,rfl,fun _ h=>h,rfl,fun _ h=>h,rfl,fun _ h=>h,trivial⟩) (fun g hg c hc N N' v hv=>?_) (fun g hg=>?_) ?_
     ·simp only [List.cons_append,List.nil_append,List.mem_cons,List.not_mem_nil,or_false] at hg
      rcases hg with rfl | rfl | rfl | rfl
      ·obtain rfl:c=.slv p m _:=List.mem_singleton.1 hc
       exact hv
      ·obtain rfl:c=.int .u64 (.v kh):=List.mem_singleton.1 hc
       exact hv
      ·exact hadL_den (by rw [←hhd2];exact hc) hv
      ·exact bytL_den (l:=[x]) hc hv
     ·simp only [List.cons_append,List.nil_append,List.mem_cons,List.not_mem_nil,or_false] at hg
      rcases hg with rfl | rfl | rfl | rfl<;>rfl
     refine X.back (fun N ac w' hN hf hS=>hq ⟨(i+1,[]++[x]),⟨by simp only;omega,hgo,by simp only [List.length_append,List.length_singleton];simp⟩⟩ ac w' (by simp only;omega) ?_)
     show At (mkE Tryz.prog Tryz.f130 (BytRet F w) w (InR [] []) im (fun _ _=>False) (fun _=>True) [] B130) ⟨[(2,.val (.int .i64 (.v many))),(3,.val (.own 0 0)),(8,.val (.int .i64 (.nat s0))),(9,.val (.own 2 0)),(10,.val (outV ([]++[x]))),(20,.val (.int .i64 (.nat m))),(21,.val (.int .i64 (.nat (i+1))))],⟨true,[.slv p m c],none⟩::⟨true,[.int .u64 (.v kh)],none⟩::⟨true,hadL ([]++[x]),none⟩::outR ([]++[x])⟩ ac w'
     rw [←hhd2]
     exact At.again hf hS (by repeat first | exact trivial | refine ⟨⟨_,rfl,.inl ⟨rfl,rfl⟩⟩,?_⟩ | refine ⟨⟨_,rfl,.inr ⟨_,rfl,rfl⟩⟩,?_⟩ | refine ⟨⟨_,rfl,.inr ⟨_,rfl,by simp (disch:=omega) [SV.den,SI.den,wrapU,wrapD]<;>omega⟩⟩,?_⟩) ⟨fun h=>h,SubC.refl rfl,rfl,fun h=>h,SubC.refl rfl,rfl,fun h=>h,SubC.refl (hbd2 _),rfl,fun h=>h,SubC.refl rfl,rfl,trivial⟩
    ·simp only [SB.T,SB.F] at hold
     have htt:t=true:=by simpa using hold
     have hmem:x∈([]:List Int):=by rw [htt] at ht;rw [hxz];simpa [hadB] using ht.symm
     exact absurd hmem (by simp)
  ·simp only [SB.F,SI.den] at hge
   have hie:m-i=0:=by omega
   refine X.go T130_ok 400 _ rfl Tryz.results130 ?_
   conv=>arg 2;cbv
   have hFl:F=[]:=by rw [hie,keepGo] at hgo;exact hgo.symm
   refine X.done T130_ok rfl (fun N w' v hN hS hv=>?_)
   simp [resV,SV.den,one?] at hv
   exact ⟨none,0,by rw [←hv,hFl];rfl,by rw [hFl];exact Nat.le_refl _,.inl ⟨hFl,rfl,rfl⟩,hS.chg.none⟩
 ·skip
  rw [outV_pos hz,outR_pos hz]
  obtain ⟨cs,hcs⟩:∃ c,c=bytL l:=⟨_,rfl⟩
  obtain ⟨ll,hll⟩:∃ q,q=l.length:=⟨_,rfl⟩
  rw [←hcs,←hll]
  rw [←hll] at hlen
  have hcl:cs.length=ll:=by rw [hcs,bytL_len,hll]
  have hcb:∀ m,cs.all (bd m)=true:=fun m=>by rw [hcs];exact bytL_bd
  have hl0:0<ll:=by rw [hll];exact List.length_pos_iff.2 hz
  refine X.go T130_ok 400 _ rfl Tryz.results130 ?_
  conv=>arg 2;cbv
  refine X.cond rfl (fun hlt=>?_) (fun hge=>?_)
  ·simp only [SB.T,SI.den] at hlt
   have hlt:i<m:=by omega
   have hmi:m-i=(m-(i+1))+1:=by omega
   rw [hmi,keepGo] at hgo
   refine X.go T130_ok 400 _ rfl Tryz.results130 ?_
   conv=>arg 2;cbv
   refine X.cond rfl (fun hfull=>?_) (fun hroom=>?_)
   ·simp only [SB.T,SI.den] at hfull
    have hfull:many≤(ll:Int):=hfull
    refine X.go T130_ok 400 _ rfl Tryz.results130 ?_
    conv=>arg 2;cbv
    have hFl:F=l:=by rw [if_pos (by omega)] at hgo;exact hgo.symm
    refine X.done T130_ok rfl (fun N w' v hN hS hv=>?_)
    obtain ⟨p4,hp4⟩:∃ p,N[3]?=some p:=⟨_,List.getElem?_eq_getElem (by rw [hS.len];simp)⟩
    have hext:=hS.ext 3 _ p4 rfl hp4 rfl
    simp only [hcl] at hext
    simp only [resV,SV.den,hp4,Num.cap,Option.some.injEq] at hv
    refine ⟨some ⟨p4.b,p4.o,none⟩,_,by rw [←hv,hFl,←hll,Nat.add_zero],by rw [hFl,←hll];simpa using hext,.inr ⟨by rw [hFl];exact hz,p4.b,p4.o,rfl,?_,fun j hj=>?_⟩,hS.chg.none⟩
    ·rcases hS.foot 3 _ p4 rfl hp4 rfl with h | h
     ·exact h
     ·exact absurd (h 0 (by omega)) (fun h=>inR_nil h)
    ·rw [hFl] at hj ⊢
     have hj:j<l.length:=by simpa using hj
     obtain ⟨v0,h1,h2⟩:=hS.cell 3 _ p4 rfl hp4 j (.int .u8 (.v l[j]!)) (by show cs[j]?=_;rw [hcs];simp [bytL,hj])
     simp only [SV.den,SI.den,Option.some.injEq] at h1
     subst h1
     exact ⟨by simpa using h2,(hS.room 3 _ p4 rfl hp4 rfl j (by omega)).2⟩
   ·simp only [SB.F,SI.den] at hroom
    have hroom:¬many≤(ll:Int):=fun h=>absurd h (by have hr:=hroom;simpa using hr)
    rw [if_neg (by omega)] at hgo
    obtain ⟨z,hz1⟩:∃ z,z=(s0+i) % m:=⟨_,rfl⟩
    have hzm:z<m:=by rw [hz1];exact Nat.mod_lt _ (by omega)
    obtain ⟨oz,hoz⟩:∃ q,q=o+z*2:=⟨_,rfl⟩
    have hRi:R i=L[z]!.2:=by rw [hRR,nodeAt,hm,hz1]
    obtain ⟨x,hx⟩:∃ x,x=R i:=⟨_,rfl⟩
    obtain ⟨xz,hxz,hx256⟩:∃ y:Nat,x=(y:Int)∧y<256:=by
     have hmem:L[z]! ∈ L:=by rw [getElem!_pos L z (by omega)];exact List.getElem_mem _
     have:=hN _ hmem
     exact ⟨x.toNat,by omega,by omega⟩
    rw [←hx] at hgo
    have hix:im b (oz+1)=some (.int .u8 x):=by rw [him,els_old,hoz,hx,hRi];exact (hL z (by omega)).2
    obtain ⟨t,ht⟩:∃ t,t=hadB l xz:=⟨_,rfl⟩
    have hdx:hd[xz]?=some (.bool (.v t)):=by rw [hhd,ht];exact hadL_at _ hx256
    refine X.goP ([(34,.int .i64 (.nat z)),(35,.ext b oz 0),(37,.int .u8 (.v x)),(39,.own 2 xz),(40,.bool (.v t))]) T130_ok 400 _ rfl Tryz.results130 (fun pr fin hpr hfin=>?_)
    conv=>cbv
    refine ⟨hpr _ (vk_load1 rfl Tryz.isAgg4 rfl hdx),hpr _ (vk_arr (z:=xz) rfl rfl (fun _=>hxz) Tryz.underlying243 Tryz.sizeOf4 hx256 (by omega) (Nat.lt_of_sub_eq_succ rfl)),hpr _ (ValOk.im1 rfl Tryz.isAgg5 (fun _=>rfl) fun _=>hix),hpr _ (ValOk.at (z:=z) rfl rfl (fun _=>rfl) Tryz.underlying170 Tryz.sizeOf205 (fun _=>hzm) (hp (by omega)) hoz),hpr _ (vk_rem rfl rfl (fun _=>by simp (disch:=omega) only [SI.den,wrapN];exact ⟨by omega,by rw [hz1];rfl⟩)),hfin _ _ ?_⟩
    refine X.cond rfl (fun hnew=>?_) (fun hold=>?_)
    ·simp only [SB.T,SB.F] at hnew
     have htf:t=false:=by simpa using hnew
     have hnm:¬x∈(l:List Int):=by rw [htf] at ht;rw [hxz];simpa [hadB] using ht.symm
     rw [if_neg hnm] at hgo
     refine X.goP ([(43,.own 2 xz)]) T130_ok 4 _ rfl Tryz.results130 (fun pr fin hpr hfin=>?_)
     conv=>cbv
     refine ⟨hpr _ (vk_arr (z:=xz) rfl rfl (fun _=>hxz) Tryz.underlying243 Tryz.sizeOf4 hx256 (by omega) (Nat.lt_of_sub_eq_succ rfl)),hfin _ _ ?_⟩
     have hdl:hd.length=256:=by rw [hhd];exact hadL_len _
     refine X.opEq T130_ok (oe_store (v:=.bool (.lit true)) (g:=⟨true,hd,none⟩) (cs':=setRow hd xz [.bool (.lit true)]) rfl rfl rfl rfl rfl rfl rfl rfl rfl rfl (by show xz+1≤hd.length;omega) rfl rfl) ?_
     refine X.recell 2 ⟨true,setRow hd xz [.bool (.lit true)],none⟩ (hadL (l++[x])) rfl (by rw [hadL_len,setRow_length _ _ _ (by omega)];simp;omega) (fun N _ j c c' h1 h2 v hv=>?_) ?_
     ·obtain ⟨hj,rfl⟩:=hadL_get h2
      simp only at h1
      rw [setRow_at _ _ _ _ (by simp;omega)] at h1
      by_cases e:j=xz
      ·subst e
       rw [if_pos (by simp),Nat.sub_self] at h1
       obtain rfl:c=.bool (.lit true):=(Option.some.inj h1).symm
       rw [←hv]
       simp [SV.den,SB.den,hadB,hxz]
      ·rw [if_neg (by simp;omega),hhd,hadL_at _ hj] at h1
       obtain rfl:=(Option.some.inj h1).symm
       have hne:¬(j:Int)=x:=by omega
       rw [←hv]
       simp [SV.den,SB.den,hadB,hne]
     obtain ⟨hd2,hhd2⟩:∃ h,h=hadL (l++[x]):=⟨_,rfl⟩
     rw [←hhd2]
     have hbd2:∀ m,hd2.all (bd m)=true:=fun m=>by rw [hhd2];exact hadL_bd
     show X (mkE Tryz.prog Tryz.f130 (BytRet F w) w (InR [] []) im (fun _ _=>False) (fun _=>True) [] B130) _ ⟨_,[⟨true,[.slv p m c],none⟩,⟨true,[.int .u64 (.v kh)],none⟩,⟨true,hd2,none⟩,⟨true,cs,none⟩]⟩
     refine X.go T130_ok 5 _ rfl Tryz.results130 ?_
     conv=>arg 2;cbv
     refine X.opEq (T:=T130) T130_ok (opE_append (te:=ti5) (new:=[.int .u8 (.v x)]) (m:=1) rfl rfl rfl rfl rfl rfl rfl rfl (appSrc_row (g:=⟨true,[.int .u8 (.v x)],none⟩) rfl rfl rfl rfl) (appV_hid (te:=ti5) (cs:=cs) rfl (by show cs.length=ll*1;omega) (by decide) (appOk_ok (by decide) rfl rfl rfl (by show (2*(ll+1)+256)*1≤_;omega) (by omega))) rfl) ?_
     obtain ⟨cs2,hcs2⟩:∃ c,c=cs++[.int .u8 (.v x)]:=⟨_,rfl⟩
     rw [←hcs2]
     have hc2:cs2=bytL (l++[x]):=by rw [hcs2,hcs];simp [bytL]
     refine X.go T130_ok 400 _ rfl Tryz.results130 ?_
     conv=>arg 2;cbv
     refine X.less [2,3,8,9,10,20,21] ?_
     refine X.dropAt rfl [(21,.val (.int .i64 (.wrap .i64 (.add (.nat i) (.lit 1))))),(10,.val (.osl 4 0 (ll+1) 1 none)),(2,.val (.int .i64 (.v many))),(3,.val (.own 0 0)),(8,.val (.int .i64 (.nat s0))),(9,.val (.own 2 0)),(20,.val (.int .i64 (.nat m)))] [⟨true,[.slv p m c],none⟩,⟨true,[.int .u64 (.v kh)],none⟩,⟨true,hd2,none⟩] (rB:=[⟨true,[.int .u8 (.v x)],none⟩,⟨true,cs2,none⟩]) (fun A x B hA=>by obtain ⟨a1,a2,a3,rfl⟩:=len3 hA;exact ⟨rfl,fun _ h=>h,rfl,fun _ h=>h,rfl,fun _ h=>h,rfl,fun _ h=>h,rfl,fun _ h=>h,rfl,fun _ h=>h,rfl,fun _ h=>h,trivial⟩) (fun g hg c hc N N' v hv=>?_) (fun g hg=>?_) ?_
     ·simp only [List.cons_append,List.nil_append,List.mem_cons,List.not_mem_nil,or_false] at hg
      rcases hg with rfl | rfl | rfl | rfl | rfl
      ·obtain rfl:c=.slv p m _:=List.mem_singleton.1 hc
       exact hv
      ·obtain rfl:c=.int .u64 (.v kh):=List.mem_singleton.1 hc
       exact hv
      ·exact hadL_den (by rw [←hhd2];exact hc) hv
      ·exact bytL_den (l:=[x]) hc hv
      ·exact bytL_den (l:=l++[x]) (by rw [←hc2];exact hc) hv
     ·simp only [List.cons_append,List.nil_append,List.mem_cons,List.not_mem_nil,or_false] at hg
      rcases hg with rfl | rfl | rfl | rfl | rfl<;>rfl
     refine X.dropAt rfl [(21,.val (.int .i64 (.wrap .i64 (.add (.nat i) (.lit 1))))),(10,.val (.osl 3 0 (ll+1) 1 none)),(2,.val (.int .i64 (.v many))),(3,.val (.own 0 0)),(8,.val (.int .i64 (.nat s0))),(9,.val (.own 2 0)),(20,.val (.int .i64 (.nat m)))] [⟨true,[.slv p m c],none⟩,⟨true,[.int .u64 (.v kh)],none⟩,⟨true,hd2,none⟩] (rB:=[⟨true,cs2,none⟩]) (fun A x B hA=>by obtain ⟨a1,a2,a3,rfl⟩:=len3 hA;exact ⟨rfl,fun _ h=>h,rfl,fun _ h=>h,rfl,fun _ h=>h,rfl,fun _ h=>h,rfl,fun _ h=>h,rfl,fun _ h=>h,rfl,fun _ h=>h,trivial⟩) (fun g hg c hc N N' v hv=>?_) (fun g hg=>?_) ?_
     ·simp only [List.cons_append,List.nil_append,List.mem_cons,List.not_mem_nil,or_false] at hg
      rcases hg with rfl | rfl | rfl | rfl
      ·obtain rfl:c=.slv p m _:=List.mem_singleton.1 hc
       exact hv
      ·obtain rfl:c=.int .u64 (.v kh):=List.mem_singleton.1 hc
       exact hv
      ·exact hadL_den (by rw [←hhd2];exact hc) hv
      ·exact bytL_den (l:=l++[x]) (by rw [←hc2];exact hc) hv
     ·simp only [List.cons_append,List.nil_append,List.mem_cons,List.not_mem_nil,or_false] at hg
      rcases hg with rfl | rfl | rfl | rfl<;>rfl
     refine X.back (fun N ac w' hN hf hS=>hq ⟨(i+1,l++[x]),⟨by simp only;omega,hgo,by simp only [List.length_append,List.length_singleton];omega⟩⟩ ac w' (by simp only;omega) ?_)
     show At (mkE Tryz.prog Tryz.f130 (BytRet F w) w (InR [] []) im (fun _ _=>False) (fun _=>True) [] B130) ⟨[(2,.val (.int .i64 (.v many))),(3,.val (.own 0 0)),(8,.val (.int .i64 (.nat s0))),(9,.val (.own 2 0)),(10,.val (outV (l++[x]))),(20,.val (.int .i64 (.nat m))),(21,.val (.int .i64 (.nat (i+1))))],⟨true,[.slv p m c],none⟩::⟨true,[.int .u64 (.v kh)],none⟩::⟨true,hadL (l++[x]),none⟩::outR (l++[x])⟩ ac w'
     rw [outV_pos (by simp),outR_pos (by simp),←hc2,←hhd2,List.length_append,←hll]
     have hcb2:∀ m,cs2.all (bd m)=true:=fun m=>by rw [hc2];exact bytL_bd
     exact At.again hf hS (by repeat first | exact trivial | refine ⟨⟨_,rfl,.inl ⟨rfl,rfl⟩⟩,?_⟩ | refine ⟨⟨_,rfl,.inr ⟨_,rfl,rfl⟩⟩,?_⟩ | refine ⟨⟨_,rfl,.inr ⟨_,rfl,by simp (disch:=omega) [SV.den,SI.den,wrapU,wrapD]<;>omega⟩⟩,?_⟩) ⟨fun h=>h,SubC.refl rfl,rfl,fun h=>h,SubC.refl rfl,rfl,fun h=>h,SubC.refl (hbd2 _),rfl,fun h=>h,SubC.refl (hcb2 _),rfl,trivial⟩
    ·simp only [SB.T,SB.F] at hold
     have htt:t=true:=by simpa using hold
     have hmem:x∈(l:List Int):=by rw [htt] at ht;rw [hxz];simpa [hadB] using ht.symm
     rw [if_pos hmem] at hgo
     refine X.go T130_ok 400 _ rfl Tryz.results130 ?_
     conv=>arg 2;cbv
     refine X.back (fun N ac w' hN hf hS=>hq ⟨(i+1,l),⟨by simp only;omega,hgo,by simp only;omega⟩⟩ ac w' (by simp only;omega) ?_)
     show At (mkE Tryz.prog Tryz.f130 (BytRet F w) w (InR [] []) im (fun _ _=>False) (fun _=>True) [] B130) ⟨[(2,.val (.int .i64 (.v many))),(3,.val (.own 0 0)),(8,.val (.int .i64 (.nat s0))),(9,.val (.own 2 0)),(10,.val (outV l)),(20,.val (.int .i64 (.nat m))),(21,.val (.int .i64 (.nat (i+1))))],⟨true,[.slv p m c],none⟩::⟨true,[.int .u64 (.v kh)],none⟩::⟨true,hadL l,none⟩::outR l⟩ ac w'
     rw [outV_pos hz,outR_pos hz,←hcs,←hll,←hhd]
     exact At.again hf hS (by repeat first | exact trivial | refine ⟨⟨_,rfl,.inl ⟨rfl,rfl⟩⟩,?_⟩ | refine ⟨⟨_,rfl,.inr ⟨_,rfl,rfl⟩⟩,?_⟩ | refine ⟨⟨_,rfl,.inr ⟨_,rfl,by simp (disch:=omega) [SV.den,SI.den,wrapU,wrapD]<;>omega⟩⟩,?_⟩) ⟨fun h=>h,SubC.refl rfl,rfl,fun h=>h,SubC.refl rfl,rfl,fun h=>h,SubC.refl (hbd _),rfl,fun h=>h,SubC.refl (hcb _),rfl,trivial⟩
  ·simp only [SB.F,SI.den] at hge
   have hie:m-i=0:=by omega
   refine X.go T130_ok 400 _ rfl Tryz.results130 ?_
   conv=>arg 2;cbv
   have hFl:F=l:=by rw [hie,keepGo] at hgo;exact hgo.symm
   refine X.done T130_ok rfl (fun N w' v hN hS hv=>?_)
   obtain ⟨p4,hp4⟩:∃ p,N[3]?=some p:=⟨_,List.getElem?_eq_getElem (by rw [hS.len];simp)⟩
   have hext:=hS.ext 3 _ p4 rfl hp4 rfl
   simp only [hcl] at hext
   simp only [resV,SV.den,hp4,Num.cap,Option.some.injEq] at hv
   refine ⟨some ⟨p4.b,p4.o,none⟩,_,by rw [←hv,hFl,←hll,Nat.add_zero],by rw [hFl,←hll];simpa using hext,.inr ⟨by rw [hFl];exact hz,p4.b,p4.o,rfl,?_,fun j hj=>?_⟩,hS.chg.none⟩
   ·rcases hS.foot 3 _ p4 rfl hp4 rfl with h | h
    ·exact h
    ·exact absurd (h 0 (by omega)) (fun h=>inR_nil h)
   ·rw [hFl] at hj ⊢
    have hj:j<l.length:=by simpa using hj
    obtain ⟨v0,h1,h2⟩:=hS.cell 3 _ p4 rfl hp4 j (.int .u8 (.v l[j]!)) (by show cs[j]?=_;rw [hcs];simp [bytL,hj])
    simp only [SV.den,SI.den,Option.some.injEq] at h1
    subst h1
    exact ⟨by simpa using h2,(hS.room 3 _ p4 rfl hp4 rfl j (by omega)).2⟩
theorem pdq8_nil (k:Nat) (w:World):Calls Tryz.prog 128 #[.slice none 0 0,.int .i64 0,.int .i64 0,.int .i64 k] w fun e w'=>e=.returned (.tuple #[])∧Chg (fun _ _=>False) w w':=by
 refine X.begin (rg:=[]) (N:=[]) (ss:=[.raw (.slice none 0 0),.int .i64 (.lit 0),.int .i64 (.lit 0),.int .i64 (.nat k)]) Tryz.func128 rfl B128_ok rfl rfl Sat.std0 ?_
 refine X.goC FALL_ok true T128_ok 4000 _ rfl Tryz.results128 ?_
 conv=>arg 2;cbv
 refine X.done T128_ok rfl (fun N w' v hN hS hv=>?_)
 simp only [resV,SV.den,SV.denL,Option.some.injEq] at hv
 exact ⟨by rw [←hv],hS.chg.none⟩
theorem sort8_nil (w:World):Calls Tryz.prog 98 #[.slice none 0 0] w fun e w'=>e=.returned (.tuple #[])∧Chg (fun _ _=>False) w w':=by
 refine X.begin (rg:=[]) (N:=[]) (ss:=[.raw (.slice none 0 0)]) Tryz.func98 rfl B98_ok rfl rfl Sat.std0 ?_
 refine X.go T98_ok 400 _ rfl Tryz.results98 ?_
 conv=>arg 2;cbv
 refine X.call rfl rfl rfl rfl Tryz.call129 (fun N w1 args hN hS ha=>?_)
 have ha:args=[.int .u64 ((0:Nat):Int)]:=(Option.some.inj ha).symm
 rw [ha]
 refine Calls.mono (len_ok 0 (by omega) w1) fun e w' ⟨k,hk,he,hw⟩=>⟨_,he,?_⟩
 subst hw
 refine Goes.same hN hS (Chg.refl _ _) (r:=.int .i64 (.nat k)) rfl rfl ?_
 refine X.go T98_ok 400 _ rfl Tryz.results98 ?_
 conv=>arg 2;cbv
 refine X.call rfl rfl rfl rfl Tryz.call128 (fun N w1 args hN hS ha=>?_)
 have ha:args=[.slice none 0 0,.int .i64 0,.int .i64 0,.int .i64 k]:=(Option.some.inj ha).symm
 rw [ha]
 refine (pdq8_nil k w1).mono fun e w2 ⟨he,hc⟩=>⟨_,he,Goes.same hN hS hc (r:=.tup []) rfl rfl ?_⟩
 refine X.go T98_ok 400 _ rfl Tryz.results98 ?_
 conv=>arg 2;cbv
 refine X.over T98_ok rfl (fun N w' v hN hS hv=>?_)
 simp only [resV,SV.den,SV.denL,Option.some.injEq] at hv
 exact ⟨by rw [←hv],hS.chg.none⟩
theorem build_nil (cp:Nat) (w:World):Calls Tryz.prog 131 #[.slice none 0 cp] w (PtsRet [] w):=by
 refine X.begin (rg:=[]) (N:=[]) (ss:=[.slv none 0 cp]) Tryz.func131 rfl B131_ok rfl rfl Sat.std0 ?_
 refine X.go T131_ok 400 _ rfl Tryz.results131 ?_
 conv=>arg 2;cbv
 refine X.call rfl rfl rfl rfl Tryz.call34 (fun N w1 args hN hS ha=>?_)
 have ha:args=[.slice none 0 cp]:=(Option.some.inj ha).symm
 rw [ha]
 refine (clone8_nil cp w1).mono fun e w2 ⟨he,hc⟩=>⟨_,he,Goes.same hN hS hc (r:=.raw (.slice none 0 0)) rfl rfl ?_⟩
 refine X.go T131_ok 400 _ rfl Tryz.results131 ?_
 conv=>arg 2;cbv
 refine X.call rfl rfl rfl rfl Tryz.call98 (fun N w1 args hN hS ha=>?_)
 have ha:args=[.slice none 0 0]:=(Option.some.inj ha).symm
 rw [ha]
 refine (sort8_nil w1).mono fun e w2 ⟨he,hc⟩=>⟨_,he,Goes.same hN hS hc (r:=.tup []) rfl rfl ?_⟩
 refine X.goC FALL_ok true T131_ok 4000 _ rfl Tryz.results131 ?_
 conv=>arg 2;cbv
 refine X.call rfl rfl rfl rfl Tryz.call166 (fun N w1 args hN hS ha=>?_)
 have ha:args=[.slice none 0 0,.func (.func 167) #[] #[]]:=(Option.some.inj ha).symm
 rw [ha]
 have key:=AnyF.slices_SortFunc_none (P:=Tryz.prog) { Tryz.sortL with } none 0 (.func (.func 167) #[] #[]) w1
 refine Calls.mono key fun e w2 ⟨he,hw⟩=>⟨_,he,?_⟩
 subst hw
 refine Goes.same hN hS (Chg.refl _ _) (r:=.tup []) rfl rfl ?_
 refine X.go T131_ok 400 _ rfl Tryz.results131 ?_
 conv=>arg 2;cbv
 refine X.done T131_ok rfl (fun N w' v hN hS hv=>?_)
 simp [resV,SV.den,one?] at hv
 exact ⟨none,0,by rw [←hv];rfl,.inl rfl,hS.chg.none⟩
theorem ringP_nil:ringP #[]=[]:=by simp [ringP,ringU,ascA,srtA,Go.Lib.compactUpTo]
theorem build_ok (po:Option Addr) (n cp:Nat) (d:Array Int) (w:World) (hle:n≤1000) (hA:InB po n d w) :
  Calls Tryz.prog 131 #[.slice po n cp] w (PtsRet (ringP d) w):=by
 cases po with
 | none =>
  have h0:n=0:=by
   rcases Nat.eq_zero_or_pos n with h | h
   ·exact h
   ·obtain ⟨b,y,h1,_⟩:=hA.2 h
    cases h1
  subst h0
  have:d=#[]:=Array.size_eq_zero_iff.1 hA.1
  subst this
  rw [ringP_nil]
  exact build_nil cp w
 | some a=>exact build_pos (some a) n cp d w (by simp) hle hA
theorem ringP_perm (d:Array Int):(ringP d).Perm (ringU (ascA d)):=List.mergeSort_perm _ _
theorem ringP_len (d:Array Int):(ringP d).length≤8*d.size:=by
 rw [(ringP_perm d).length_eq,←ringTo_all,ringTo_len _ _ (Nat.le_refl _)]
 have:=ascA_size d
 omega
theorem srtA_perm (d:Array Int):(srtA d).toList.Perm d.toList:=by
 show (d.toList.mergeSort _).Perm _
 exact List.mergeSort_perm _ _
theorem ascA_mem {d:Array Int} {x:Int} (h:x∈(ascA d).toList):x∈d.toList:=by
 simp only [ascA,Go.Lib.compactUpTo,List.mem_map,List.mem_filter,List.mem_range] at h
 obtain ⟨k,⟨hk,_⟩,rfl⟩:=h
 refine (srtA_perm d).mem_iff.1 ?_
 have hk':k<(srtA d).size:=by rw [srtA_size];exact hk
 rw [getElem!_pos _ k hk']
 exact Array.getElem_mem_toList hk'
theorem ringP_node {d:Array Int} {y:Int × Int} (h:y∈ringP d):y.2∈d.toList:=by
 have h:=(ringP_perm d).mem_iff.1 h
 obtain ⟨n,hn,h⟩:=List.mem_flatMap.1 h
 obtain ⟨v,_,rfl⟩:=List.mem_map.1 h
 exact ascA_mem hn
theorem ringP_byte {d:Array Int} (hd:∀ x∈d.toList,0≤x∧x<256):∀ y∈ringP d,0≤y.2∧y.2<256:=fun _ hy=>hd _ (ringP_node hy)
theorem ringP_rise (d:Array Int):Rise (ringP d):=fun a b hab hb=>by
 have hs:(ringP d).Pairwise (fun x y=>(!ltOf cfP y x)=true):=List.pairwise_mergeSort (fun x y z h1 h2=>by
  simp only [ltP,Bool.not_eq_true',decide_eq_false_iff_not] at h1 h2 ⊢
  omega) (fun x y=>by
  simp only [ltP,Bool.or_eq_true,Bool.not_eq_true',decide_eq_false_iff_not]
  omega) _
 rcases Nat.lt_or_ge a b with h | h
 ·have:=List.pairwise_iff_getElem.1 hs a b (by omega) hb h
  rw [getElem!_pos _ a (by omega),getElem!_pos _ b hb]
  simp only [ltP,Bool.not_eq_true',decide_eq_false_iff_not] at this
  omega
 ·have:a=b:=by omega
  subst this
  exact Int.le_refl _
theorem im_new {E:Env} {N:Nums} {rg:List Rg} {w:World} (h:Sat E N rg w) {k o:Nat} (hk:w.heap.size≤k):E.im k o=none:=by
 cases hv:E.im k o with
 | none=>rfl
 | some v =>
  have:=h.imm k o v hv
  simp [World.cell?,Array.getElem?_eq_none hk] at this
theorem keepGo_len (R:Nat→Int) (many:Int):∀ (k i:Nat) (out:List Int),(keepGo R many k i out).length≤out.length+k
 | 0,_,out=>Nat.le_refl _
 | k+1,i,out=>by
  unfold keepGo
  split
  ·omega
  ·have:=keepGo_len R many k (i+1) (if R i∈out then out else out++[R i])
   have h2:(if R i∈out then out else out++[R i]).length≤out.length+1:=by split<;>simp
   omega
theorem keepL_len (L:List (Int × Int)) (key many:Int):(keepL L key many).length≤L.length:=by
 have:=keepGo_len (nodeAt L (atP L (keyZ key))) many L.length 0 []
 simpa [keepL] using this
def ofL (d:Array Int) (key:Int):List Int:=(srtA (keepL (ringP d) key 3).toArray).toList
theorem of_ok (po:Option Addr) (n cp:Nat) (d:Array Int) (key:Int) (w:World) (hle:n≤1000) (hA:InB po n d w) (hd:∀ x∈d.toList,0≤x∧x<256) :
  Calls Tryz.prog 100 #[.slice po n cp,.int .u8 key] w (BytRet (ofL d key) w):=by
 obtain ⟨F,hF⟩:∃ F,F=ofL d key:=⟨_,rfl⟩
 rw [←hF]
 refine X.begin (rg:=[]) (N:=[]) (ss:=[.slv po n cp,.int .u8 (.v key)]) Tryz.func100 rfl B100_ok rfl rfl Sat.std0 ?_
 refine X.go T100_ok 400 _ rfl Tryz.results100 ?_
 conv=>arg 2;cbv
 refine X.call rfl rfl rfl rfl Tryz.call131 (fun N w1 args hN hS ha=>?_)
 have ha:args=[.slice po n cp]:=(Option.some.inj ha).symm
 rw [ha]
 refine (build_ok po n cp d w1 hle (hA.stays hS.chg.none)).mono fun e w2 ⟨p,c,he,hr,hch⟩=>⟨_,he,?_⟩
 obtain ⟨L,hL⟩:∃ L,L=ringP d:=⟨_,rfl⟩
 obtain ⟨m,hm⟩:∃ m,m=L.length:=⟨_,rfl⟩
 have hm8:m≤8000:=by rw [hm,hL];have:=ringP_len d;have:=hA.1;omega
 rw [←hL] at hr
 rw [←hL,←hm]
 refine Goes.newMem hN hS hch (r:=.slv p m c) rfl rfl (fun hold hnew=>?_)
 obtain ⟨im,him⟩:∃ im,im=imNew (elsewhere [] [] w) w1 w2:=⟨_,rfl⟩
 have hpt:0<m→∃ b o,p=some ⟨b,o,none⟩∧∀ j,j<L.length→im b (o+j*2)=some (.int .u64 L[j]!.1)∧im b (o+j*2+1)=some (.int .u8 L[j]!.2):=fun h0=>by
  rcases hr with h | ⟨b,o,h1,h2,h3⟩
  ·rw [h] at hm;simp at hm;omega
  ·refine ⟨b,o,h1,fun j hj=>?_⟩
   have:=PtIn.of h3 j hj
   rw [him]
   exact ⟨hnew _ _ _ h2 this.1,hnew _ _ _ h2 this.2⟩
 show X (mkE Tryz.prog Tryz.f100 (BytRet F w) w (InR [] []) (imNew (elsewhere [] [] w) w1 w2) (fun _ _=>False) (fun _=>True) [] B100) _ _
 rw [←him]
 clear him hold hnew hr hch he ha hS hN
 refine X.go T100_ok 400 _ rfl Tryz.results100 ?_
 conv=>arg 2;cbv
 refine X.call rfl rfl rfl rfl Tryz.call130 (fun N w3 args hN hS ha=>?_)
 have ha:args=[.slice p m c,.int .u8 key,.int .i64 3]:=(Option.some.inj ha).symm
 rw [ha]
 obtain ⟨b,o,hp,hpi⟩:∃ b o,(0<m→p=some ⟨b,o,none⟩)∧PtIn b o L w3:=by
  rcases Nat.eq_zero_or_pos m with h | h
  ·exact ⟨0,0,fun h2=>by omega,fun j hj=>by omega⟩
  ·obtain ⟨b,o,h1,h2⟩:=hpt h
   exact ⟨b,o,fun _=>h1,fun j hj=>⟨hS.imm _ _ _ (h2 j hj).1,hS.imm _ _ _ (h2 j hj).2⟩⟩
 refine (keepers_ok b o m c p L key 3 w3 hp hm.symm hm8 hpi (by rw [hL];exact ringP_rise d) (by rw [hL];exact ringP_byte hd)).mono fun e w4 ⟨p2,c2,he,hc2,hr,hch⟩=>⟨_,he,?_⟩
 obtain ⟨out,hout⟩:∃ l,l=keepL L key 3:=⟨_,rfl⟩
 obtain ⟨ll,hll⟩:∃ q,q=out.length:=⟨_,rfl⟩
 rw [←hout] at hr hc2
 rw [←hout,←hll]
 have hFo:F=(srtA out.toArray).toList:=by rw [hF,ofL,←hL,←hout]
 rcases hr with ⟨h1,h2,h3⟩ | ⟨hne,b2,o2,h1,h2,h3⟩
 ·subst h2 h3
  have hl0:ll=0:=by rw [hll,h1];rfl
  subst hl0
  have hFn:F=[]:=by rw [hFo,h1];simp [srtA]
  refine Goes.same hN hS hch (r:=.raw (.slice none 0 0)) rfl rfl ?_
  refine X.go T100_ok 400 _ rfl Tryz.results100 ?_
  conv=>arg 2;cbv
  refine X.call rfl rfl rfl rfl Tryz.call98 (fun N w5 args hN hS ha=>?_)
  have ha:args=[.slice none 0 0]:=(Option.some.inj ha).symm
  rw [ha]
  refine (sort8_nil w5).mono fun e w6 ⟨he,hc⟩=>⟨_,he,Goes.same hN hS hc (r:=.tup []) rfl rfl ?_⟩
  refine X.go T100_ok 400 _ rfl Tryz.results100 ?_
  conv=>arg 2;cbv
  refine X.done T100_ok rfl (fun N w' v hN hS hv=>?_)
  simp [resV,SV.den,one?] at hv
  exact ⟨none,0,by rw [←hv,hFn];rfl,by rw [hFn];exact Nat.le_refl _,.inl ⟨hFn,rfl,rfl⟩,hS.chg.none⟩
 ·have hsz:out.toArray.size=ll:=by rw [hll];simp
  have hbw:w.heap.size≤b2:=Nat.le_trans hS.chg.size h2
  have hdw:∀ k o,arrD b2 o2 ll k o→w.heap.size≤k:=fun k o ⟨e1,_,_⟩=>by rw [e1];exact hbw
  have hdi:∀ k o,arrD b2 o2 ll k o→im k o=none:=fun k o ⟨e1,_,_⟩=>im_new hS (by rw [e1];exact h2)
  refine Goes.turn (r:=.slv p2 ll c2) (arrD b2 o2 ll) (fun w=>AtA w b2 o2 out.toArray) hN hS hch (fun _ _ h=>h.elim) (fun _ _ h=>h.elim) (by simp) (fun k o hk=>⟨.inr (by obtain ⟨e1,e2,e3⟩:=hk;rw [e1];exact h2),h3.there (by omega) hk⟩) (AtA.loc (by omega)) h3 rfl rfl ?_
  clear h3 hch he ha hS hN
  show X (mkE Tryz.prog Tryz.f100 (BytRet F w) w (InR [] []) im (arrD b2 o2 ll) (fun w=>AtA w b2 o2 out.toArray) [] B100) _ _
  refine X.go T100_ok 400 _ rfl Tryz.results100 ?_
  conv=>arg 2;cbv
  refine X.call rfl rfl rfl rfl Tryz.call98 (fun N w5 args hN hS ha=>?_)
  have ha:args=[.slice p2 ll c2]:=(Option.some.inj ha).symm
  rw [ha,h1]
  have hll8:ll≤8000:=by have:=keepL_len L key 3;rw [←hout] at this;omega
  refine (sort8_ok b2 o2 ll c2 out.toArray w5 hS.res hsz (by omega)).mono fun e w6 ⟨S,⟨g1,g2⟩,he,hA1,hch⟩=>⟨_,he,?_⟩
  have hSr:=srtA_of hsz g1 g2
  subst hSr
  have hsn:(srtA out.toArray).size=ll:=by rw [srtA_size,hsz]
  refine Goes.turn (r:=.tup []) (arrD b2 o2 ll) (fun w=>AtA w b2 o2 (srtA out.toArray)) hN hS hch (fun k o h=>.inl (hdw k o h)) hdi (by simp) (fun k o hk=>⟨.inl hk,hA1.there (by omega) hk⟩) (AtA.loc (by omega)) hA1 rfl rfl ?_
  clear hA1 hch he ha hS hN g1 g2
  show X (mkE Tryz.prog Tryz.f100 (BytRet F w) w (InR [] []) im (arrD b2 o2 ll) (fun w=>AtA w b2 o2 (srtA out.toArray)) [] B100) _ _
  refine X.go T100_ok 400 _ rfl Tryz.results100 ?_
  conv=>arg 2;cbv
  refine X.done T100_ok rfl (fun N w' v hN hS hv=>?_)
  simp only [resV,SV.den,Option.some.injEq] at hv
  have hFl:F.length=ll:=by rw [hFo];simpa using hsn
  exact ⟨some ⟨b2,o2,none⟩,c2,by rw [←hv,hFl],by rw [hFl,hll];exact hc2,.inr ⟨fun h=>hne (List.eq_nil_of_length_eq_zero (by rw [←hll,←hFl,h];rfl)),b2,o2,rfl,hbw,by rw [hFo];exact hS.res⟩,hS.chg.none⟩
section
variable {E:Ctx}
theorem X.callG {all:Array Oper} {i:Nat} {rest:List Nat} {k:List It} {s:St} {o:Oper} {g:FuncId} {xs:Array Operand} {ts:Array TypeId} {l:List SV} (ho:nth all.toList i=some o) (hgd:gdOf all s.fr o=some .yes)
  (hop:o.op=.call { callee:=.value (.func g),args:=xs,argTypes:=ts }) (hl:evL s.fr xs.toList=some l) (hb:∀ args w,(callFunc g args).run E.P w=.ok (.enter g args) w)
  (h:∀ (N:Nums) (w:World) (args:List Value),E.N0.le N→Sat E.toEnv N s.rg w→SV.denL N l=some args →
   Calls E.P g args.toArray w fun e w'=>∃ v,e=.returned v∧Goes E N (.ops all rest::k) s.fr o.dst v w'):X E (.ops all (i::rest)::k) s:=by
 intro N a w hN hfr hS
 show wpOps _ _ _ _ _ _
 have ho':all[i]?=some o:=by rw [nth_eq] at ho;simpa using ho
 have hw:Region.wanted o (yielded all a.tmps)=true:=gdOf_sound hfr hgd
 simp only [wpOps,ho',hw,if_true]
 refine .inl ?_
 have hargs:=evL_sound hfr _ hl
 have hc:=h N w _ hN hS hargs
 have hrun:(execOp a.eval o).run E.P w=.ok (.enter g (xs.toList.map a.eval).toArray) w:=by
  simp only [execOp,hop,resolve,Act.eval,Deferred.ofValue,Sem.run_bind,Sem.run_pure,Result.andThen,invoke]
  rw [hb]
  congr 2
  apply Array.ext'
  simp
 unfold Oper.wp
 rw [hrun]
 refine Calls.mono hc fun e w' ⟨v,he,E',N',r,rg',f',h1,h2,h3,hB,h4,h5,h6,h7,h8,h9⟩=>?_
 subst he
 have:=h9 N' (a.put o.dst v) w' h5 (by rw [h2];exact putO_sound (hfr.mono h4) h7 h8) h6
 rw [h1,h3,hB] at this
 exact this
end
theorem vk_str {E:Env} {N0:Nums} {rg:List Rg} {f:Fr} {g:GK} {src e dst:TypeId} {x:Operand} {p:Option Addr} {n c:Nat} {l:List Int} (hx:evK f g x=some (.slv p n c)) (hn:l.length=n) (hs:E.P.underlying src=some (.slice e)) (he:E.P.underlying e=some (.int .u8)) (hd:E.P.underlying dst=some .string)
  (hl:p=none∧c=0∧n=0∨∃ b y,p=some ⟨b,y,none⟩∧∀ j,j<n→E.im b (y+j)=some (.int .u8 l[j]!)):ValOk E N0 rg f g (.convert src dst x) (.raw (.string (strOfNums l))):=by
 intro ht N ρ o w hN0 hop hρ hV
 have h1:=hρ _ _ hx
 simp only [SV.den,Option.some.injEq] at h1
 refine ⟨.string (strOfNums l),by simp [SV.den,one?],fun w' hV'=>?_⟩
 have:(convert src dst (.slice p n c)).run E.P w'=.ok (.string (strOfNums l)) w':=by
  rcases hl with ⟨rfl,rfl,rfl⟩ | ⟨b,y,rfl,hc⟩
  ·have:l=[]:=List.eq_nil_of_length_eq_zero hn
   subst this
   exact run_convert_bytes_nil w' src e hs he _ _ dst hd
  ·exact run_convert_bytes_arg w' src e hs he b y n c l hn (fun j hj=>by
    rw [hV'.2 _ _ _ (hc j hj),List.getD_eq_getElem?_getD,getElem!_pos l j (by omega),List.getElem?_eq_getElem (by omega)]
    rfl) dst hd
 simp only [execOp,hop,←h1,this,Sem.run_bind,Result.andThen,Sem.run_pure]
theorem vk_eqs {E:Env} {N0:Nums} {rg:List Rg} {f:Fr} {g:GK} {t:TypeId} {x y:Operand} {u v:ByteArray} (hx:evK f g x=some (.raw (.string u))) (hy:evK f g y=some (.raw (.string v))) (hb:u=v) :
  ValOk E N0 rg f g (.binOp .eql t x y t) (.bool (.lit true)):=by
 intro ht N ρ o w0 hN0 hop hρ hV
 have h1:=hρ _ _ hx
 have h2:=hρ _ _ hy
 simp only [SV.den,one?,if_true,Option.some.injEq] at h1 h2
 subst hb
 refine ⟨_,rfl,fun w' _=>?_⟩
 have hb':∀ w',(binOp .eql t (.string u) (.string u)).run E.P w'=.ok (.bool true) w':=fun w'=>by
  simp [binOp,Op.stringOp]
 simp [execOp,hop,←h1,←h2,Result.andThen,eqGuard_none,hb',SB.den]
end Go.Proofs.YthaffebapmkppaaGreat
namespace Go.Eng
end Go.Eng
namespace Go.Proofs.YthaffebapmkppaaGreat
open Go Go.Eng Go.Sort
theorem appV_none {rg:List Rg} {te:TI} {r n:Nat} {cs:List SV} (hr:nth rg r=some ⟨true,cs,none⟩) (hcs:cs.length=n*te.size) (hok:appV.appOk te [] n 0=true) :
  appV rg te (.osl r 0 n te.size none) [] 0=some (.osl r 0 n te.size none,rg):=by
 have e2:Nat.ble (0+n*te.size) cs.length=true:=by rw [hcs];exact Nat.ble_eq_true_of_le (by omega)
 simp only [appV,hr,hok,e2,Nat.beq_refl,Bool.and_self,cond_true]
theorem Sat.addRo {E:Env} {N:Nums} {rg:List Rg} {w:World} (h:Sat E N rg w) {b o x s0:Nat} {cs:List SV} (hN:∀ (r:Nat) (p:Num),N[r]?=some p→p.b<s0) (hs0:s0≤b) (hb:b<w.heap.size)
  (hcs:∀ (j:Nat) (c:SV),cs[j]?=some c→∃ v,c.den N=some v∧w.cell? ⟨b,o+j,none⟩=some v):Sat E (N++[⟨b,o,x⟩]) (rg++[⟨false,cs,none⟩]) w:=by
 have hle:N.le (N++[⟨b,o,x⟩]):=Nums.le_append _ _
 refine ⟨by simp [h.len],?_,?_,?_,?_,?_,?_,?_,h.imm,?_,?_,h.dlt,h.loc,h.res,h.chg,?_⟩
 ·intro i q hq
  rcases Nat.lt_or_ge i N.length with hi | hi
  ·rw [List.getElem?_append_left hi] at hq;exact h.lt i q hq
  ·rw [List.getElem?_append_right hi] at hq
   have hz:i-N.length=0:=by
    have:=(List.getElem?_eq_some_iff.1 hq).1
    simp at this;omega
   rw [hz] at hq;simp at hq;subst hq;exact hb
 ·intro i g q hg hq j d hj
  rcases get_snoc h.len hg hq with ⟨a,b⟩ | ⟨_,rfl,rfl⟩
  ·obtain ⟨v,h1,h2⟩:=h.cell i g q a b j d hj
   exact ⟨v,SV.den_mono hle d h1,h2⟩
  ·obtain ⟨v,h1,h2⟩:=hcs j d hj
   exact ⟨v,SV.den_mono hle d h1,h2⟩
 ·intro i g q hg hq ho
  rcases get_snoc h.len hg hq with ⟨a,b⟩ | ⟨_,rfl,rfl⟩
  ·exact h.ext i g q a b ho
  ·cases ho
 ·intro i g q hg hq ho
  rcases get_snoc h.len hg hq with ⟨a,b⟩ | ⟨_,rfl,rfl⟩
  ·exact h.room i g q a b ho
  ·cases ho
 ·intro i i' g g' q q' hg hq hg' hq' ho hne j hj hb'
  rcases get_snoc h.len hg hq with ⟨a1,a2⟩ | ⟨a0,rfl,rfl⟩
  ·rcases get_snoc h.len hg' hq' with ⟨b1,b2⟩ | ⟨b0,rfl,rfl⟩
   ·exact h.disj i i' g g' q q' a1 a2 b1 b2 ho hne j hj hb'
   ·have:=hN i q a2;simp at hb';omega
  ·cases ho
 ·intro i g q ob hg hq ho
  rcases get_snoc h.len hg hq with ⟨a,b⟩ | ⟨_,rfl,rfl⟩
  ·obtain ⟨⟨o',k1,k2⟩,k3⟩:=h.obj i g q ob a b ho
   exact ⟨⟨o',Ob.den_mono hle ob k1,k2⟩,k3⟩
  ·simp at ho
 ·intro i i' g g' q q' hg hq hg' hq' ho ho' hne
  rcases get_snoc h.len hg hq with ⟨a1,a2⟩ | ⟨a0,rfl,rfl⟩
  ·rcases get_snoc h.len hg' hq' with ⟨b1,b2⟩ | ⟨b0,rfl,rfl⟩
   ·exact h.odisj i i' g g' q q' a1 a2 b1 b2 ho ho' hne
   ·simp at ho'
  ·simp at ho
 ·intro i g q hg hq ho
  rcases get_snoc h.len hg hq with ⟨a,b⟩ | ⟨_,rfl,rfl⟩
  ·exact h.imd i g q a b ho
  ·cases ho
 ·intro i g q hg hq ho
  rcases get_snoc h.len hg hq with ⟨a,b⟩ | ⟨_,rfl,rfl⟩
  ·exact h.dd i g q a b ho
  ·cases ho
 ·intro i g q hg hq ho
  rcases get_snoc h.len hg hq with ⟨a,b⟩ | ⟨_,rfl,rfl⟩
  ·exact h.foot i g q a b ho
  ·cases ho
def RoRet (cs:List SV) (n:Nat) (w:World) (e:Ending) (w':World):Prop :=
 ∃ b o c,e=.returned (.slice (some ⟨b,o,none⟩) n c)∧w.heap.size≤b∧b<w'.heap.size∧(∀ (j:Nat) (c:SV),cs[j]?=some c→∃ v,(∀ N,c.den N=some v)∧w'.cell? ⟨b,o+j,none⟩=some v)∧Chg (fun _ _=>False) w w'
theorem RoRet.sat {E:Env} {N:Nums} {rg:List Rg} {w w':World} {cs:List SV} {n sz:Nat} {e:Ending} (hz:0<sz) (hf:RoRet cs n w e w') (h:Sat E N rg w) :
  ∃ N' v,e=.returned v∧N.le N'∧(SV.osl rg.length 0 n sz none).den N'=some v∧Sat E N' (rg++[⟨false,cs,none⟩]) w':=by
 obtain ⟨b,o,c,he,h1,h2,h3,hc⟩:=hf
 have hget:(N++[⟨b,o,sz*c⟩]:Nums)[rg.length]?=some ⟨b,o,sz*c⟩:=by rw [←h.len];simp
 refine ⟨N++[⟨b,o,sz*c⟩],_,he,Nums.le_append _ _,by simp only [SV.den,hget,Num.cap,Nat.add_zero,Nat.sub_zero,Nat.mul_div_cancel_left _ hz],?_⟩
 exact Sat.addRo (h.after0 hc) (s0:=w.heap.size) (fun r p hp=>h.lt r p hp) h1 h2 (fun j c hj=>by
  obtain ⟨v,k1,k2⟩:=h3 j c hj
  exact ⟨v,k1 N,k2⟩)
theorem BytRet.ro {l:List Int} {w:World} {e:Ending} {w':World} (h:BytRet l w e w') (hl:l≠[]):RoRet (bytL l) l.length w e w':=by
 obtain ⟨p,c,he,_,hr,hc⟩:=h
 rcases hr with ⟨h,_⟩ | ⟨_,b,o,rfl,h2,h3⟩
 ·exact absurd h hl
 ·have h0:0<l.length:=List.length_pos_iff.2 hl
  refine ⟨b,o,c,he,h2,World.block_lt_of_cell? _ _ (h3 0 (by simpa using h0)).1,fun j x hj=>?_,hc⟩
  have hj2:j<l.length:=by rw [←bytL_len];exact (List.getElem?_eq_some_iff.1 hj).1
  obtain ⟨z,k1,rfl⟩:∃ z,l[j]?=some z∧x=.int .u8 (.v z):=by
   unfold bytL at hj
   rw [List.getElem?_map] at hj
   obtain ⟨z,k1,k2⟩:=Option.map_eq_some_iff.1 hj
   exact ⟨z,k1,k2.symm⟩
  refine ⟨_,fun _=>rfl,?_⟩
  have:=(h3 j (by simpa using hj2)).1
  rw [this]
  have hz:l[j]=z:=by rw [List.getElem?_eq_getElem hj2] at k1;exact Option.some.inj k1
  simp [SI.den,hj2,hz]
theorem ascA_pos {d:Array Int} (h:0<d.size):0<(ascA d).size:=by
 have h0:(0:Nat)∈(List.range d.size).filter (Go.Lib.keeps (srtA d)):=List.mem_filter.2 ⟨List.mem_range.2 h,Go.Lib.keeps_lt_one _ 0 (by omega)⟩
 simp only [ascA,Go.Lib.compactUpTo,List.size_toArray,List.length_map]
 exact List.length_pos_of_mem h0
theorem ringP_pos {d:Array Int} (h:0<d.size):ringP d≠[]:=fun e=>by
 have h1:=(ringP_perm d).length_eq
 rw [e,←ringTo_all,ringTo_len _ _ (Nat.le_refl _)] at h1
 have:=ascA_pos h
 simp at h1
 omega
theorem keepGo_ge (R:Nat→Int) (many:Int):∀ (k i:Nat) (out:List Int),out.length≤(keepGo R many k i out).length
 | 0,_,out=>Nat.le_refl _
 | k+1,i,out=>by
  unfold keepGo
  split
  ·exact Nat.le_refl _
  ·have h1:=keepGo_ge R many k (i+1) (if R i∈out then out else out++[R i])
   have h2:out.length≤(if R i∈out then out else out++[R i]).length:=by split<;>simp
   omega
theorem ofL_pos {d:Array Int} {key:Int} (h:0<d.size):ofL d key≠[]:=fun e=>by
 have h1:(keepL (ringP d) key 3).length=0:=by
  have:=congrArg List.length e
  simp only [ofL,Array.length_toList,srtA_size,List.size_toArray,List.length_nil] at this
  exact this
 have hL:0<(ringP d).length:=List.length_pos_iff.2 (ringP_pos h)
 obtain ⟨q,hq⟩:∃ q,(ringP d).length=q+1:=⟨(ringP d).length-1,by omega⟩
 unfold keepL at h1
 rw [hq,keepGo,if_neg (by simp),if_neg (by simp)] at h1
 have:=keepGo_ge (nodeAt (ringP d) (atP (ringP d) (keyZ key))) 3 q (0+1) ([]++[nodeAt (ringP d) (atP (ringP d) (keyZ key)) 0])
 rw [h1] at this
 simp at this
end Go.Proofs.YthaffebapmkppaaGreat
namespace Go.Proofs.YthaffebapmkppaaGreat
open Go Go.Eng
theorem wrap64 (z:Int):IntKind.u64.wrap z=z % 18446744073709551616:=by
 simp [IntKind.wrap,IntKind.bits,IntKind.signed]
theorem inB_own {E:Env} {N:Nums} {rg:List Rg} {w:World} (hS:Sat E N rg w) {r n:Nat} {ow:Bool} {x:Array Int} {xs:List SV} {p:Num} (hg:rg[r]?=some ⟨ow,xs,none⟩) (hp:N[r]?=some p) (hn:x.size=n) (hx:∀ j,j<n→∃ e,xs[j]?=some (.int .u8 e)∧e.den=x[j]!):InB (some ⟨p.b,p.o+0,none⟩) n x w :=
 ⟨hn,fun _=>⟨p.b,p.o,rfl,fun j hj=>by
  obtain ⟨e,h1,h2⟩:=hx j (by omega)
  obtain ⟨v,h3,h4⟩:=hS.cell r _ p hg hp j _ h1
  simp only [SV.den,h2,Option.some.injEq] at h3
  rw [h4,←h3]⟩⟩
end Go.Proofs.YthaffebapmkppaaGreat
namespace Go.Proofs.YthaffebapmkppaaGreat
open Go Go.Eng Go.Sort
theorem X.noNames {P:Program} {fn:Func} {Q:Ending→World→Prop} {W:World} {O D:Nat→Nat→Prop} {Rr:World→Prop} {im:Mem} {B:SchT} {N0:Nums} {k:List It} {s:St} (h:X (mkE P fn Q W O im D Rr [] B) k s):X (mkE P fn Q W O im D Rr N0 B) k s :=
 X.conv fun N a w hN hf hS=>⟨mkE P fn Q W O im D Rr [] B,s,rfl,rfl,rfl,rfl,⟨N,nil_le N,hf,hS.env rfl rfl rfl rfl rfl⟩,h⟩
theorem num_of {E:Env} {N:Nums} {rg:List Rg} {w:World} (hS:Sat E N rg w) {r:Nat} {g:Rg} (hg:rg[r]?=some g):∃ p,N[r]?=some p:=⟨_,List.getElem?_eq_getElem (by rw [hS.len];exact (List.getElem?_eq_some_iff.1 hg).1)⟩
end Go.Proofs.YthaffebapmkppaaGreat
namespace Go.Proofs.YthaffebapmkppaaGreat
open Go Go.Eng Go.ChangeShapes Go.WideShapes Go.ChangeAt Go.RowKit
theorem byte_wf {z:Int} (h:(Lit.int .u8 z).wf=true):0≤z∧z<256:=by
 simp [Lit.wf,IntKind.min,IntKind.max,IntKind.bits,IntKind.signed] at h
 omega
theorem kinds_u8:kindsOf Tryz.prog 8 5=some [.int .u8]:=by kernel_rfl
theorem cells_u8:Tryz.prog.cellsOf 5=1:=by kernel_rfl
theorem rd_cells {W:World} {b y e:Nat} {ks:List CK} (h:RdAt Tryz.prog W 0 b y e) (hk:kindsOf Tryz.prog 8 e=some ks):∃ cs,CellsOk Tryz.prog W 0 ks cs∧∀ (j:Nat) (v:Value),cs[j]?=some v→W.cell? ⟨b,y+j,none⟩=some v:=by
 obtain ⟨_,cs,_,h2,h3⟩:=h
 exact ⟨cs,kindsOf_sound 8 e ks cs hk h3,h2⟩
theorem bytes_of {W:World} {v:Value} (h:CellOk Tryz.prog W 0 (.slice 5) v):∃ po n cp d,v=.slice po n cp∧InB po n d W∧n≤cp∧∀ x∈d.toList,0≤x∧x<256:=by
 obtain ⟨po,n,cp,rfl,hc,_,hr⟩:=h
 by_cases h0:n=0
 ·subst h0
  exact ⟨po,0,cp,#[],rfl,⟨rfl,fun h=>absurd h (Nat.lt_irrefl 0)⟩,hc,fun x hx=>by simp at hx⟩
 ·obtain ⟨b,y,hpo,hr⟩:=hr (by rw [cells_u8];omega) (by omega)
  have cell:∀ i,i<n→∃ z:Int,W.cell? ⟨b,y+i,none⟩=some (.int .u8 z)∧0≤z∧z<256:=fun i hi=>by
   have hr:=hr i hi
   rw [cells_u8,Nat.mul_one] at hr
   obtain ⟨cs,hcs,hcell⟩:=rd_cells hr kinds_u8
   obtain ⟨v0,r0,rfl,h0,hcs⟩:=CellsOk.cons hcs
   obtain ⟨z,rfl,hz⟩:=h0
   exact ⟨z,by have:=hcell 0 _ rfl;rwa [Nat.add_zero] at this,byte_wf hz⟩
  obtain ⟨d,hd1,hd2⟩:∃ d:Array Int,d.size=n∧∀ i,i<n→W.cell? ⟨b,y+i,none⟩=some (.int .u8 d[i]!)∧0≤d[i]! ∧ d[i]! < 256:=by
   refine ⟨((List.range n).map fun i=>if h:i<n then (cell i h).choose else 0).toArray,by simp,fun i hi=>?_⟩
   have e:(((List.range n).map fun i=>if h:i<n then (cell i h).choose else 0).toArray)[i]! = (cell i hi).choose:=by simp [hi]
   rw [e]
   exact (cell i hi).choose_spec
  refine ⟨po,n,cp,d,rfl,⟨hd1,fun _=>⟨b,y,hpo,fun j hj=>(hd2 j (by omega)).1⟩⟩,hc,fun x hx=>?_⟩
  obtain ⟨i,hi⟩:=List.mem_iff_getElem?.1 hx
  have hin:i<d.size:=by simpa using (List.getElem?_eq_some_iff.1 hi).1
  have:=hd2 i (by omega)
  rw [getElem!_pos d i hin] at this
  have hx2:d[i]=x:=by simpa [hin] using hi
  rw [hx2] at this
  exact this.2
end Go.Proofs.YthaffebapmkppaaGreat
namespace Go.Proofs.YthaffebapmkppaaGreat
open Go Go.Eng Go.Sort
def dd:List Int→List Int→List Int
 | [],out=>out
 | x::xs,out=>dd xs (if x∈out then out else out++[x])
theorem dd_pre:∀ (l out:List Int),out <+: dd l out
 | [],out=>List.prefix_refl out
 | x::l,out=>by
  unfold dd
  refine List.IsPrefix.trans ?_ (dd_pre l _)
  split
  ·exact List.prefix_refl out
  ·exact List.prefix_append out [x]
theorem dd_mem:∀ (l out:List Int) (y:Int),y∈dd l out↔y∈out∨y∈l
 | [],out,y=>by simp [dd]
 | x::l,out,y=>by
  unfold dd
  rw [dd_mem l _ y]
  split
  ·rename_i h
   constructor
   ·rintro (h1 | h1)
    ·exact .inl h1
    ·exact .inr (List.mem_cons_of_mem _ h1)
   ·rintro (h1 | h1)
    ·exact .inl h1
    ·rcases List.mem_cons.1 h1 with rfl | h1
     ·exact .inl h
     ·exact .inr h1
  ·simp [or_assoc]
theorem dd_nodup:∀ (l out:List Int),out.Nodup→(dd l out).Nodup
 | [],out,h=>h
 | x::l,out,h=>by
  unfold dd
  refine dd_nodup l _ ?_
  split
  ·exact h
  ·rename_i hx
   refine List.nodup_append.2 ⟨h,by simp,fun a ha b hb e=>?_⟩
   subst e
   rw [List.mem_singleton.1 hb] at ha
   exact hx ha
theorem take_pre {l m:List Int} {n:Nat} (h:l <+: m) (hn:n≤l.length):m.take n=l.take n:=by
 obtain ⟨t,rfl⟩:=h
 rw [List.take_append_of_le_length hn]
theorem keepGo_dd (R:Nat→Int) (many:Int):∀ (k i:Nat) (out:List Int),out.length≤many.toNat→keepGo R many k i out=(dd ((List.range' i k).map R) out).take many.toNat
 | 0,i,out,h=>by simp [keepGo,dd,List.take_of_length_le h]
 | k+1,i,out,h=>by
  unfold keepGo
  by_cases hm:many≤out.length
  ·rw [if_pos hm,take_pre (dd_pre _ _) (by omega),List.take_of_length_le (by omega)]
  ·rw [if_neg hm,keepGo_dd R many k (i+1) _ (by split;exact h;simp;omega)]
   rw [List.range'_succ,List.map_cons,dd]
theorem comp_mem (d:Array Int):∀ (m:Nat),m≤d.size→∀ y,y∈Go.Lib.compactUpTo d m↔∃ j,j<m∧d[j]! = y
 | 0,_,y=>by simp [Go.Lib.compactUpTo]
 | m+1,hm,y=>by
  rw [Go.Lib.compactUpTo_succ,List.mem_append,comp_mem d m (by omega) y]
  constructor
  ·rintro (⟨j,h1,h2⟩ | h)
   ·exact ⟨j,by omega,h2⟩
   ·split at h
    ·exact ⟨m,by omega,(List.mem_singleton.1 h).symm⟩
    ·cases h
  ·rintro ⟨j,h1,h2⟩
   by_cases hj:j<m
   ·exact .inl ⟨j,hj,h2⟩
   ·have:j=m:=by omega
    subst this
    by_cases hk:Go.Lib.keeps d j=true
    ·exact .inr (by rw [if_pos hk];exact List.mem_singleton.2 h2.symm)
    ·have hk:¬(j=0∨d[j]! ≠ d[j-1]!):=by simpa [Go.Lib.keeps] using hk
     have h0:j≠0:=fun e=>hk (.inl e)
     have he:d[j]! = d[j-1]! := Classical.byContradiction fun e=>hk (.inr e)
     exact .inl ⟨j-1,by omega,by rw [←he,h2]⟩
theorem comp_lt (d:Array Int) (hs:∀ i j,i≤j→j<d.size→d[i]! ≤ d[j]!):∀ (m:Nat),m≤d.size→(Go.Lib.compactUpTo d m).Pairwise (·<·)
 | 0,_=>by simp [Go.Lib.compactUpTo]
 | m+1,hm=>by
  rw [Go.Lib.compactUpTo_succ]
  have ih:=comp_lt d hs m (by omega)
  split
  ·rename_i hk
   refine List.pairwise_append.2 ⟨ih,by simp,fun a ha b hb=>?_⟩
   rw [List.mem_singleton.1 hb]
   obtain ⟨j,h1,h2⟩:=(comp_mem d m (by omega) a).1 ha
   have hk:m=0∨d[m]! ≠ d[m-1]! := by simpa [Go.Lib.keeps] using hk
   rcases hk with hk | hk
   ·omega
   ·have a1:=hs j (m-1) (by omega) (by omega)
    have a2:=hs (m-1) m (by omega) (by omega)
    omega
  ·simpa using ih
theorem lt_eq {a b:List Int} (ha:a.Pairwise (·<·)) (hb:b.Pairwise (·<·)) (h:∀ y,y∈a↔y∈b):a=b:=by
 have na:a.Nodup:=ha.imp fun h=>by omega
 have nb:b.Nodup:=hb.imp fun h=>by omega
 exact List.Perm.eq_of_pairwise (fun x y _ _ h1 h2=>by omega) ha hb ((List.perm_ext_iff_of_nodup na nb).2 h)
theorem srtA_le (d:Array Int):∀ i j,i≤j→j<(srtA d).size→(srtA d)[i]! ≤ (srtA d)[j]! := fun i j hij hj=>by
 have hs:(srtA d).toList.Pairwise (fun x y=>(!ltInt y x)=true):=List.pairwise_mergeSort (fun x y z h1 h2=>by
  simp only [ltInt,Bool.not_eq_true',decide_eq_false_iff_not] at h1 h2 ⊢
  omega) (fun x y=>by
  simp only [ltInt,Bool.or_eq_true,Bool.not_eq_true',decide_eq_false_iff_not]
  omega) _
 rcases Nat.lt_or_ge i j with h | h
 ·have:=List.pairwise_iff_getElem.1 hs i j (by simpa using (by omega:i<(srtA d).size)) (by simpa using hj) h
  simp only [ltInt,Bool.not_eq_true',decide_eq_false_iff_not,Array.getElem_toList] at this
  rw [getElem!_pos _ i (by omega),getElem!_pos _ j hj]
  omega
 ·have:i=j:=by omega
  subst this
  exact Int.le_refl _
theorem ascA_lt (d:Array Int):(ascA d).toList.Pairwise (·<·):=comp_lt (srtA d) (srtA_le d) d.size (by rw [srtA_size];exact Nat.le_refl _)
theorem ascA_iff (d:Array Int) (y:Int):y∈(ascA d).toList↔y∈d.toList:=by
 refine (comp_mem (srtA d) d.size (by rw [srtA_size];exact Nat.le_refl _) y).trans ?_
 rw [←(srtA_perm d).mem_iff]
 constructor
 ·rintro ⟨j,h1,rfl⟩
  have hj:j<(srtA d).size:=by rw [srtA_size];exact h1
  rw [getElem!_pos _ j hj]
  exact Array.getElem_mem_toList hj
 ·intro h
  obtain ⟨j,hj⟩:=List.mem_iff_getElem?.1 h
  have hlt:j<(srtA d).size:=by simpa using (List.getElem?_eq_some_iff.1 hj).1
  refine ⟨j,by rw [←srtA_size d];exact hlt,?_⟩
  rw [getElem!_pos _ j hlt]
  simpa [hlt] using hj
def turnL (L:List (Int × Int)) (kh:Int):List (Int × Int):=L.filter (fun p=>decide (kh≤p.1))++L.filter (fun p=>!decide (kh≤p.1))
theorem split_mono (p:Int × Int→Bool):∀ (L:List (Int × Int)),L.Pairwise (fun x y=>p x=true→p y=true)→L.take (L.countP fun x=>!p x)=L.filter (fun x=>!p x)∧L.drop (L.countP fun x=>!p x)=L.filter p
 | [],_=>⟨rfl,rfl⟩
 | x::L,h=>by
  obtain ⟨h1,h2⟩:=List.pairwise_cons.1 h
  obtain ⟨i1,i2⟩:=split_mono p L h2
  cases hx:p x with
  | false =>
   rw [List.countP_cons_of_pos (by simp [hx]),List.filter_cons_of_pos (by simp [hx]),List.filter_cons_of_neg (by simp [hx])]
   exact ⟨by rw [List.take_succ_cons,i1],by rw [List.drop_succ_cons,i2]⟩
  | true =>
   have hall:∀ y∈L,p y=true:=fun y hy=>h1 y hy hx
   have h0:L.countP (fun x=>!p x)=0:=List.countP_eq_zero.2 fun y hy=>by simp [hall y hy]
   rw [List.countP_cons_of_neg (by simp [hx]),h0,List.filter_cons_of_neg (by simp [hx]),List.filter_cons_of_pos hx]
   refine ⟨?_,?_⟩
   ·rw [List.filter_eq_nil_iff.2 fun y hy=>by simp [hall y hy]]
    rfl
   ·rw [List.filter_eq_self.2 hall]
    rfl
theorem atP_count (L:List (Int × Int)) (kh:Int):atP L kh=L.countP fun p=>!decide (kh≤p.1):=by
 unfold atP
 have:L=(List.range L.length).map fun i=>L[i]! := by
  apply List.ext_getElem
  ·simp
  ·intro i h1 h2
   simp [h1]
 conv=>rhs;rw [this,List.countP_map]
 rfl
theorem rise_pair {L:List (Int × Int)} (h:Rise L) (kh:Int):L.Pairwise (fun x y=>decide (kh≤x.1)=true→decide (kh≤y.1)=true):=List.pairwise_iff_getElem.2 fun i j hi hj hij h1=>by
 have:=h i j (by omega) hj
 rw [getElem!_pos _ i hi,getElem!_pos _ j hj] at this
 have h1:=of_decide_eq_true h1
 exact decide_eq_true (by omega)
theorem nodes_turn {L:List (Int × Int)} (h:Rise L) (kh:Int):(List.range' 0 L.length).map (nodeAt L (atP L kh))=(turnL L kh).map (·.2):=by
 obtain ⟨h1,h2⟩:=split_mono (fun p=>decide (kh≤p.1)) L (rise_pair h kh)
 rw [←atP_count] at h1 h2
 have hle:=atP_le L kh
 unfold turnL
 rw [←h1,←h2]
 obtain ⟨s,hs⟩:∃ s,s=atP L kh:=⟨_,rfl⟩
 rw [←hs] at hle ⊢
 apply List.ext_getElem
 ·simp;omega
 ·intro i hi1 hi2
  have hi:i<L.length:=by simpa using hi1
  simp only [List.getElem_map,List.getElem_range',Nat.zero_add,Nat.one_mul,nodeAt]
  rw [List.getElem_append]
  split
  ·rename_i hlt
   have hlt:i<L.length-s:=by simpa using hlt
   rw [Nat.mod_eq_of_lt (by omega),getElem!_pos _ _ (by omega),List.getElem_drop]
  ·rename_i hge
   have hge:¬i<L.length-s:=by simpa using hge
   have e:(s+i) % L.length=s+i-L.length:=by rw [Nat.mod_eq_sub_mod (by omega),Nat.mod_eq_of_lt (by omega)]
   rw [e,getElem!_pos _ _ (by omega),List.getElem_take]
   congr 2
   simp
   omega
theorem keepL_eq {L:List (Int × Int)} (h:Rise L) (key many:Int):keepL L key many=(dd ((turnL L (keyZ key)).map (·.2)) []).take many.toNat:=by
 unfold keepL
 rw [keepGo_dd _ _ _ _ _ (by simp),nodes_turn h]
theorem ringP_mem (d:Array Int) (y:Int):y∈(ringP d).map (·.2)↔y∈d.toList:=by
 rw [List.mem_map,←ascA_iff]
 constructor
 ·rintro ⟨p,hp,rfl⟩
  obtain ⟨n,hn,h⟩:=List.mem_flatMap.1 ((ringP_perm d).mem_iff.1 hp)
  obtain ⟨v,_,rfl⟩:=List.mem_map.1 h
  exact hn
 ·intro h
  exact ⟨(placeZ y (0:Nat),y),(ringP_perm d).mem_iff.2 (List.mem_flatMap.2 ⟨y,h,List.mem_map.2 ⟨0,by simp,rfl⟩⟩),rfl⟩
theorem turn_mem (L:List (Int × Int)) (kh:Int) (p:Int × Int):p∈turnL L kh↔p∈L:=by
 unfold turnL
 rw [List.mem_append,List.mem_filter,List.mem_filter]
 by_cases h:kh≤p.1<;>simp [h]
theorem nodes_mem (d:Array Int) (kh y:Int):y∈(turnL (ringP d) kh).map (·.2)↔y∈d.toList:=by
 refine Iff.trans ?_ (ringP_mem d y)
 simp only [List.mem_map,turn_mem]
theorem X.noRegs {E:Ctx} {k:List It} {f:Fr} (f':Fr) {rg:List Rg} (h0:E.N0=[]) (hs:∀ N:Nums,N.length=rg.length→Sh N [] f f') (h:X E k ⟨f',[]⟩):X E k ⟨f,rg⟩:=by
 refine X.conv fun N a w hN hf hS=>⟨E,⟨f',[]⟩,rfl,rfl,rfl,rfl,⟨[],by rw [h0];exact nil_le _,hf.sh (hs N hS.len),?_⟩,h⟩
 exact { hS with
  len:=rfl
  lt:=fun r q hq=>by simp at hq
  cell:=fun r g q hg hq=>by simp at hg
  ext:=fun r g q hg hq=>by simp at hg
  room:=fun r g q hg hq=>by simp at hg
  disj:=fun r r' g g' q q' hg hq=>by simp at hg
  obj:=fun r g q ob hg hq=>by simp at hg
  odisj:=fun r r' g g' q q' hg hq=>by simp at hg
  imd:=fun r g q hg hq=>by simp at hg
  dd:=fun r g q hg hq=>by simp at hg
  foot:=fun r g q hg hq=>by simp at hg }
theorem ofL_perm (d:Array Int) (key:Int):(ofL d key).Perm (keepL (ringP d) key 3):=by
 unfold ofL
 exact srtA_perm _
theorem ofL_len (d:Array Int) (key:Int) (h:d.size≤100):(ofL d key).length≤1000:=by
 rw [(ofL_perm d key).length_eq]
 have h1:=keepL_len (ringP d) key 3
 have h2:=ringP_len d
 omega
theorem take_snoc {l:List Int} {i:Nat} (h:i<l.length):l.take (i+1)=l.take i++[l[i]!]:=by
 rw [List.take_add_one,List.getElem?_eq_getElem h,getElem!_pos l i h]
 rfl
theorem byteN {x:Int} (h:0≤x∧x<256):∃ y:Nat,x=(y:Int)∧y<256:=⟨x.toNat,by omega,by omega⟩
theorem bytL_frr {l:List Int} {a b:Nat}:(bytL l).all (SV.frr a b)=true:=List.all_eq_true.2 fun c hc=>by
 obtain ⟨x,_,rfl⟩:=List.mem_map.1 hc;rfl
theorem bytL_one {l:List Int}:(bytL l).all SV.one=true:=List.all_eq_true.2 fun c hc=>by
 obtain ⟨x,_,rfl⟩:=List.mem_map.1 hc;rfl
def RoR (cs:List SV) (n:Nat) (w:World) (e:Ending) (w':World):Prop :=
 ∃ b o c,e=.returned (.slice (some ⟨b,o,none⟩) n c)∧(0<cs.length→w.heap.size≤b)∧b<w'.heap.size∧(∀ (j:Nat) (c:SV),cs[j]?=some c→∃ v,(∀ N,c.den N=some v)∧w'.cell? ⟨b,o+j,none⟩=some v)∧Chg (fun _ _=>False) w w'
theorem foldl_take {α β:Type} [Inhabited α] (f:β→α→β) (b:β) {L:List α} {k:Nat} (h:k<L.length):(L.take (k+1)).foldl f b=f ((L.take k).foldl f b) L[k]! := by
 rw [List.take_add_one,List.getElem?_eq_getElem h,Option.toList_some,List.foldl_append,getElem!_pos L k h]
 rfl
def asc (l:List Int) (k:Nat):List Int:=((List.range k).filter fun x:Nat=>decide ((x:Int)∈l)).map fun x:Nat=>(x:Int)
theorem asc_lt (l:List Int) (k:Nat):(asc l k).Pairwise (·<·):=by
 unfold asc
 refine List.pairwise_map.2 (List.Pairwise.filter _ ?_)
 exact List.pairwise_lt_range.imp fun h=>by omega
theorem asc_mem {l:List Int} (hl:∀ x∈l,0≤x∧x<256) (y:Int):y∈asc l 256↔y∈l:=by
 unfold asc
 simp only [List.mem_map,List.mem_filter,List.mem_range,decide_eq_true_eq]
 constructor
 ·rintro ⟨a,⟨_,h⟩,rfl⟩
  exact h
 ·intro h
  have:=hl y h
  exact ⟨y.toNat,⟨by omega,by rw [Int.toNat_of_nonneg this.1];exact h⟩,Int.toNat_of_nonneg this.1⟩
theorem keepL_nodup {L:List (Int × Int)} (h:Rise L) (key many:Int):(keepL L key many).Nodup:=by
 rw [keepL_eq h]
 exact (dd_nodup _ _ List.nodup_nil).sublist (List.take_sublist _ _)
theorem ofL_lt (d:Array Int) (key:Int):(ofL d key).Pairwise (·<·):=by
 have hnd:(ofL d key).Nodup:=(ofL_perm d key).nodup_iff.2 (keepL_nodup (ringP_rise d) key 3)
 obtain ⟨a,ha⟩:∃ a,a=srtA (keepL (ringP d) key 3).toArray:=⟨_,rfl⟩
 have hle:=srtA_le (keepL (ringP d) key 3).toArray
 have e:ofL d key=a.toList:=by rw [ha];rfl
 rw [←ha] at hle
 rw [e] at hnd ⊢
 refine List.pairwise_iff_getElem.2 fun i j hi hj hij=>?_
 have h1:=hle i j (by omega) (by simpa using hj)
 rw [getElem!_pos a i (by simpa using hi),getElem!_pos a j (by simpa using hj)] at h1
 have h2:=List.pairwise_iff_getElem.1 hnd i j hi hj hij
 simp only [Array.getElem_toList] at h2 ⊢
 omega
def mayP (d:Array Int) (k:Nat):Prop:=∀ i,i<k→d[i]! < 64∧(0<i→d[i-1]! < d[i]!)
theorem mayP_succ {d:Array Int} {k:Nat}:mayP d (k+1)↔mayP d k∧d[k]! < 64∧(0<k→d[k-1]! < d[k]!):=by
 constructor
 ·exact fun h=>⟨fun i hi=>h i (by omega),h k (by omega)⟩
 ·rintro ⟨h1,h2⟩ i hi
  rcases Nat.lt_or_ge i k with h | h
  ·exact h1 i h
  ·have:i=k:=by omega
   subst this
   exact h2
theorem mayP_mono {d:Array Int} {j k:Nat} (h:mayP d k) (hj:j≤k):mayP d j:=fun i hi=>h i (by omega)
theorem may_ok (p:Option Addr) (n c:Nat) (d:Array Int) (w:World) (hle:n≤100000) (hA:InB p n d w):Calls Tryz.prog 60 #[.slice p n c] w fun e w'=>e=.returned (.bool (B (mayP d n)))∧Chg (fun _ _=>False) w w':=by
 have hn:=hA.1
 obtain ⟨Q,hQ⟩:∃ Q:Ending→World→Prop,Q=fun e w'=>e=.returned (.bool (B (mayP d n)))∧Chg (fun _ _=>False) w w':=⟨_,rfl⟩
 rw [←hQ]
 refine X.begin (rg:=[]) (N:=[]) (ss:=[.slv p n c]) Tryz.func60 rfl B60_ok rfl rfl Sat.std0 ?_
 refine X.go T60_ok 400 _ rfl Tryz.results60 ?_
 conv=>arg 2;cbv
 refine X.loop (fun _:{i:Nat // i≤n∧mayP d i}=>mkE Tryz.prog Tryz.f60 Q w (InR [] []) (elsewhere [] [] w) (fun _ _=>False) (fun _=>True) [] B60)
  (fun g=>⟨[(0,.val (.slv p n c)),(5,.val (.slv p n c)),(6,.val (.int .i64 (.nat n))),(7,.val (.int .i64 (.nat g.1)))],[]⟩) (fun g=>n-g.1) (fun _=>⟨rfl,rfl,rfl,rfl⟩) (fun N ac w' hN hf hS=>⟨⟨0,Nat.zero_le _,fun i hi=>absurd hi (Nat.not_lt_zero i)⟩,?_⟩) (fun g q hq=>?_)
 ·exact At.again hf hS (by repeat first | exact trivial | refine ⟨⟨_,rfl,.inl ⟨rfl,rfl⟩⟩,?_⟩ | refine ⟨⟨_,rfl,.inr ⟨_,rfl,rfl⟩⟩,?_⟩ | refine ⟨⟨_,rfl,.inr ⟨_,rfl,by simp (disch:=omega) [SV.den,SI.den,wrapU,wrapD]<;>omega⟩⟩,?_⟩) trivial
 obtain ⟨i,hi,hmay⟩:=g
 show X (mkE Tryz.prog Tryz.f60 Q w (InR [] []) (elsewhere [] [] w) (fun _ _=>False) (fun _=>True) [] B60) _ ⟨[(0,.val (.slv p n c)),(5,.val (.slv p n c)),(6,.val (.int .i64 (.nat n))),(7,.val (.int .i64 (.nat i)))],[]⟩
 refine X.go T60_ok 400 _ rfl Tryz.results60 ?_
 conv=>arg 2;cbv
 refine X.cond rfl (fun hlt=>?_) (fun hge=>?_)
 ·simp only [SB.T,SI.den] at hlt
  have hlt:i<n:=by omega
  obtain ⟨b,y,hp,hd⟩:=hA.2 (by omega)
  obtain ⟨x,hx⟩:∃ x,x=d[i]! := ⟨_,rfl⟩
  obtain ⟨oi,hoi⟩:∃ o,o=y+i:=⟨_,rfl⟩
  obtain ⟨j,hj⟩:∃ j,j=i-1:=⟨_,rfl⟩
  obtain ⟨x',hx'⟩:∃ x,x=d[j]! := ⟨_,rfl⟩
  obtain ⟨oj,hoj⟩:∃ o,o=y+j:=⟨_,rfl⟩
  have hix:elsewhere [] [] w b (oi+0)=some (.int .u8 x):=by rw [Nat.add_zero,els_old,hoi,hx];exact hd i (by omega)
  have hjx:elsewhere [] [] w b (oj+0)=some (.int .u8 x'):=by rw [Nat.add_zero,els_old,hoj,hx'];exact hd j (by omega)
  have hms:=mayP_succ (d:=d) (k:=i)
  rw [←hj,←hx,←hx'] at hms
  have hjz:∀ s:SB,s.den=true→s=.gt (.nat i) (.lit 0)→IntKind.i64.wrap ((i:Int)-1)=(j:Int):=fun s h1 h2=>by
   subst h2
   have:0<i:=by have:=(SB.TF _).1.1 h1;simp only [SB.T,SI.den] at this;omega
   rw [wrapN _ (by omega) (by omega)]
   omega
  refine X.goP ([(10,.ext b oi 0),(11,.int .u8 (.v x)),(22,.ext b oj 0),(23,.int .u8 (.v x'))]) T60_ok 400 _ rfl Tryz.results60 (fun pr fin hpr hfin=>?_)
  conv=>cbv
  refine ⟨hpr _ (ValOk.im1 rfl Tryz.isAgg5 (fun _=>rfl) fun _=>hjx),hpr _ (ValOk.at (z:=j) rfl rfl (fun hT=>by exact hjz _ hT rfl) Tryz.underlying23 Tryz.sizeOf5 (fun _=>by omega) hp (by omega)),hpr _ (ValOk.im1 rfl Tryz.isAgg5 (fun _=>rfl) fun _=>hix),hpr _ (ValOk.at (z:=i) rfl rfl (fun _=>rfl) Tryz.underlying23 Tryz.sizeOf5 (fun _=>hlt) hp (by omega)),hfin _ _ ?_⟩
  refine X.cond rfl (fun hT=>?_) (fun hF=>?_)
  ·simp only [SB.T,SB.F,SI.den] at hT
   have hno:¬mayP d n:=fun h=>by
    have h1:=hms.1 (mayP_mono h hlt)
    rcases hT with h2 | ⟨h2,h3⟩
    ·omega
    ·have:=h1.2.2 (by omega)
     omega
   refine X.go T60_ok 400 _ rfl Tryz.results60 ?_
   conv=>arg 2;cbv
   refine X.done T60_ok rfl (fun N w' v hN hS hv=>?_)
   rw [hQ]
   exact ⟨fin_bool hv (by rw [B_neg hno];rfl),hS.chg.none⟩
  ·simp only [SB.T,SB.F,SI.den] at hF
   have hyes:mayP d (i+1):=hms.2 ⟨hmay,by omega,fun h=>by rcases hF.2 with h2 | h2<;>omega⟩
   refine X.go T60_ok 400 _ rfl Tryz.results60 ?_
   conv=>arg 2;cbv
   refine X.back (fun N ac w' hN hf hS=>hq ⟨i+1,hlt,hyes⟩ ac w' (by simp only;omega) ?_)
   exact At.again hf hS (by repeat first | exact trivial | refine ⟨⟨_,rfl,.inl ⟨rfl,rfl⟩⟩,?_⟩ | refine ⟨⟨_,rfl,.inr ⟨_,rfl,rfl⟩⟩,?_⟩ | refine ⟨⟨_,rfl,.inr ⟨_,rfl,by simp (disch:=omega) [SV.den,SI.den,wrapU,wrapD]<;>omega⟩⟩,?_⟩) trivial
 ·simp only [SB.F,SI.den] at hge
  have hin:i=n:=by omega
  subst hin
  refine X.go T60_ok 400 _ rfl Tryz.results60 ?_
  conv=>arg 2;cbv
  refine X.done T60_ok rfl (fun N w' v hN hS hv=>?_)
  rw [hQ]
  exact ⟨fin_bool hv (by rw [B_pos hmay];rfl),hS.chg.none⟩
theorem may9_ok (p:Option Addr) (n c:Nat) (d:Array Int) (w:World) (hle:n≤100000) (hA:InB p n d w):Calls Tryz.prog 30 #[.slice p n c] w fun e w'=>e=.returned (.bool (B (mayP d n)))∧Chg (fun _ _=>False) w w':=by
 have hn:=hA.1
 obtain ⟨Q,hQ⟩:∃ Q:Ending→World→Prop,Q=fun e w'=>e=.returned (.bool (B (mayP d n)))∧Chg (fun _ _=>False) w w':=⟨_,rfl⟩
 rw [←hQ]
 refine X.begin (rg:=[]) (N:=[]) (ss:=[.slv p n c]) Tryz.func30 rfl B30_ok rfl rfl Sat.std0 ?_
 refine X.go T30_ok 400 _ rfl Tryz.results30 ?_
 conv=>arg 2;cbv
 refine X.loop (fun _:{i:Nat // i≤n∧mayP d i}=>mkE Tryz.prog Tryz.f30 Q w (InR [] []) (elsewhere [] [] w) (fun _ _=>False) (fun _=>True) [] B30)
  (fun g=>⟨[(0,.val (.slv p n c)),(5,.val (.int .i64 (.nat n))),(6,.val (.int .i64 (.nat g.1)))],[]⟩) (fun g=>n-g.1) (fun _=>⟨rfl,rfl,rfl,rfl⟩) (fun N ac w' hN hf hS=>⟨⟨0,Nat.zero_le _,fun i hi=>absurd hi (Nat.not_lt_zero i)⟩,?_⟩) (fun g q hq=>?_)
 ·exact At.again hf hS (by repeat first | exact trivial | refine ⟨⟨_,rfl,.inl ⟨rfl,rfl⟩⟩,?_⟩ | refine ⟨⟨_,rfl,.inr ⟨_,rfl,rfl⟩⟩,?_⟩ | refine ⟨⟨_,rfl,.inr ⟨_,rfl,by simp (disch:=omega) [SV.den,SI.den,wrapU,wrapD]<;>omega⟩⟩,?_⟩) trivial
 obtain ⟨i,hi,hmay⟩:=g
 show X (mkE Tryz.prog Tryz.f30 Q w (InR [] []) (elsewhere [] [] w) (fun _ _=>False) (fun _=>True) [] B30) _ ⟨[(0,.val (.slv p n c)),(5,.val (.int .i64 (.nat n))),(6,.val (.int .i64 (.nat i)))],[]⟩
 refine X.go T30_ok 400 _ rfl Tryz.results30 ?_
 conv=>arg 2;cbv
 refine X.cond rfl (fun hlt=>?_) (fun hge=>?_)
 ·simp only [SB.T,SI.den] at hlt
  have hlt:i<n:=by omega
  obtain ⟨b,y,hp,hd⟩:=hA.2 (by omega)
  obtain ⟨x,hx⟩:∃ x,x=d[i]! := ⟨_,rfl⟩
  obtain ⟨oi,hoi⟩:∃ o,o=y+i:=⟨_,rfl⟩
  obtain ⟨j,hj⟩:∃ j,j=i-1:=⟨_,rfl⟩
  obtain ⟨x',hx'⟩:∃ x,x=d[j]! := ⟨_,rfl⟩
  obtain ⟨oj,hoj⟩:∃ o,o=y+j:=⟨_,rfl⟩
  have hix:elsewhere [] [] w b (oi+0)=some (.int .u8 x):=by rw [Nat.add_zero,els_old,hoi,hx];exact hd i (by omega)
  have hjx:elsewhere [] [] w b (oj+0)=some (.int .u8 x'):=by rw [Nat.add_zero,els_old,hoj,hx'];exact hd j (by omega)
  have hms:=mayP_succ (d:=d) (k:=i)
  rw [←hj,←hx,←hx'] at hms
  have hjz:∀ s:SB,s.den=true→s=.gt (.nat i) (.lit 0)→IntKind.i64.wrap ((i:Int)-1)=(j:Int):=fun s h1 h2=>by
   subst h2
   have:0<i:=by have:=(SB.TF _).1.1 h1;simp only [SB.T,SI.den] at this;omega
   rw [wrapN _ (by omega) (by omega)]
   omega
  refine X.goP ([(11,.ext b oi 0),(12,.int .u8 (.v x)),(21,.ext b oj 0),(22,.int .u8 (.v x')),(25,.ext b oi 0),(26,.int .u8 (.v x))]) T30_ok 400 _ rfl Tryz.results30 (fun pr fin hpr hfin=>?_)
  conv=>cbv
  refine ⟨hpr _ (ValOk.im1 rfl Tryz.isAgg5 (fun _=>rfl) fun _=>hix),hpr _ (ValOk.im1 rfl Tryz.isAgg5 (fun _=>rfl) fun _=>hjx),hpr _ (ValOk.at (z:=i) rfl rfl (fun _=>rfl) Tryz.underlying23 Tryz.sizeOf5 (fun _=>hlt) hp (by omega)),hpr _ (ValOk.at (z:=j) rfl rfl (fun hT=>by exact hjz _ hT rfl) Tryz.underlying23 Tryz.sizeOf5 (fun _=>by omega) hp (by omega)),hpr _ (ValOk.im1 rfl Tryz.isAgg5 (fun _=>rfl) fun _=>hix),hpr _ (ValOk.at (z:=i) rfl rfl (fun _=>rfl) Tryz.underlying23 Tryz.sizeOf5 (fun _=>hlt) hp (by omega)),hfin _ _ ?_⟩
  refine X.cond rfl (fun hT=>?_) (fun hF=>?_)
  ·simp only [SB.T,SB.F,SI.den] at hT
   have hno:¬mayP d n:=fun h=>by
    have h1:=hms.1 (mayP_mono h hlt)
    rcases hT with h2 | ⟨h2,h3⟩
    ·omega
    ·have:=h1.2.2 (by omega)
     omega
   refine X.go T30_ok 400 _ rfl Tryz.results30 ?_
   conv=>arg 2;cbv
   refine X.done T30_ok rfl (fun N w' v hN hS hv=>?_)
   rw [hQ]
   exact ⟨fin_bool hv (by rw [B_neg hno];rfl),hS.chg.none⟩
  ·simp only [SB.T,SB.F,SI.den] at hF
   have hyes:mayP d (i+1):=hms.2 ⟨hmay,by omega,fun h=>by rcases hF.2 with h2 | h2<;>omega⟩
   refine X.go T30_ok 400 _ rfl Tryz.results30 ?_
   conv=>arg 2;cbv
   refine X.back (fun N ac w' hN hf hS=>hq ⟨i+1,hlt,hyes⟩ ac w' (by simp only;omega) ?_)
   exact At.again hf hS (by repeat first | exact trivial | refine ⟨⟨_,rfl,.inl ⟨rfl,rfl⟩⟩,?_⟩ | refine ⟨⟨_,rfl,.inr ⟨_,rfl,rfl⟩⟩,?_⟩ | refine ⟨⟨_,rfl,.inr ⟨_,rfl,by simp (disch:=omega) [SV.den,SI.den,wrapU,wrapD]<;>omega⟩⟩,?_⟩) trivial
 ·simp only [SB.F,SI.den] at hge
  have hin:i=n:=by omega
  subst hin
  refine X.go T30_ok 400 _ rfl Tryz.results30 ?_
  conv=>arg 2;cbv
  refine X.done T30_ok rfl (fun N w' v hN hS hv=>?_)
  rw [hQ]
  exact ⟨fin_bool hv (by rw [B_pos hmay];rfl),hS.chg.none⟩
end Go.Proofs.YthaffebapmkppaaGreat
