import Derived.Test.YthpbefahaghbjaaGreatOb1
import Derived.Test.YthpbefahaghbjaaGreatTab
import Derived.Test.YthpbefahaghbjaaGreatRg5
import Derived.Lib.Overlaps
set_option maxHeartbeats 16000000
set_option maxRecDepth 100000
set_option cbv.maxSteps 100000000
namespace Go.Eng
open Go
abbrev ZT:=List (Nat × SV)
def lookZ:ZT→Nat→Option SV
 | [],_=>none
 | (k,v)::r,t=>bif Nat.beq k t then some v else lookZ r t
def ZOk (P:Program):ZT→Prop
 | []=>True
 | (t,s)::r=>(∃ z,(∀ w,(zeroValue t).run P w=.ok z w)∧∀ N,s.den N=some z)∧ZOk P r
theorem ZOk.look {P:Program}:∀ {Z:ZT},ZOk P Z→∀ {t:Nat} {s:SV},lookZ Z t=some s→∃ z,(∀ w,(zeroValue t).run P w=.ok z w)∧∀ N,s.den N=some z
 | [],_,t,s,h=>by simp [lookZ] at h
 | (k,v)::r,⟨h1,h2⟩,t,s,h=>by
  simp only [lookZ] at h
  by_cases hk:k=t
  ·subst hk;simp at h;subst h;exact h1
  ·simp only [beq_ne hk,cond_false] at h;exact ZOk.look h2 h
end Go.Eng
namespace Go.Proofs.YthpbefahaghbjaaGreat
open Go Go.Eng
theorem told_run {P:Program} {F:FT} (hF:FTok P F) {g:Nat} {fi:FI} (hg:FOk P g fi) (m:Nat) (ss:List SV) {args:Array Value} (ha:SV.denL [] ss=some args.toList) (hle:Nat.ble args.size fi.n=true) {l:List SV} {v:Value} (hv:∀ N,(resV l).den N=some v)
  (h:runEnds fi.T fi.rs (runC F true m fi.T fi.B fi.n fi.rs [] [.code fi.body] ⟨argFr ss 0,[]⟩)=some l) (w:World):Calls P g args w fun e w'=>e=.returned v∧Chg (fun _ _=>False) w w' :=
 (runR hF hg m true ss ha hle h w).mono fun e w' ⟨N,u,h1,h2,h3⟩=>by
  rw [hv N] at h2
  cases h2
  exact ⟨h1,h3⟩
structure MsgC where
 (k s t y c b1 b2 b3:Int) (ok:Bool) (a1 a2 a3 rk ri rs:Int) (p1:Option Addr) (n1 c1:Nat) (p2:Option Addr) (n2 c2:Nat) (p3:Option Addr) (n3 c3:Nat) (rl:Int) (p4:Option Addr) (n4 c4:Nat) (x1 x2 x3 mx:Int)
def MsgC.vals (m:MsgC):List Value:=[.int .u8 m.k,.int .u8 m.s,.int .u8 m.t,.int .u8 m.y,.int .u64 m.c,.int .u64 m.b1,.int .u8 m.b2,.int .u32 m.b3,.bool m.ok,.int .u64 m.a1,.int .u8 m.a2,.int .u32 m.a3,.int .u8 m.rk,.int .u64 m.ri,.int .i64 m.rs,.slice m.p1 m.n1 m.c1,.slice m.p2 m.n2 m.c2,.slice m.p3 m.n3 m.c3,.int .u64 m.rl,.slice m.p4 m.n4 m.c4,.int .u64 m.x1,.int .u8 m.x2,.int .u32 m.x3,.int .u64 m.mx]
def MsgC.reg (m:MsgC):List Value:=[.int .u8 m.rk,.int .u64 m.ri,.int .i64 m.rs,.slice m.p1 m.n1 m.c1,.slice m.p2 m.n2 m.c2,.slice m.p3 m.n3 m.c3,.int .u64 m.rl,.slice m.p4 m.n4 m.c4]
theorem MsgP.cells {x:MsgP} {M:Mem} {vs:List Value} (h:RepL M x.toD vs):∃ m:MsgC,vs=m.vals∧RepL M x.reg.toD m.reg:=by
 obtain ⟨rv,rfl,hr⟩:=MsgP.open h
 obtain ⟨p1,c1,p2,c2,p3,c3,p4,c4,rfl,_⟩:=RegP.open hr
 exact ⟨⟨x.kind,x.sender,x.to,x.key,x.conf,x.b.count,x.b.node,x.b.life,x.ok,x.acc.count,x.acc.node,x.acc.life,x.reg.kind,x.reg.inc,x.reg.state,p1,_,c1,p2,_,c2,p3,_,c3,x.reg.last,p4,_,c4,x.next.count,x.next.node,x.next.life,x.max⟩,rfl,hr⟩
end Go.Proofs.YthpbefahaghbjaaGreat
namespace Go.Proofs.YthpbefahaghbjaaGreat
open Go Go.Eng Go.Sort
theorem none_ok (a b c:Int) (w:World):Calls Tryz.prog 19 #[.agg #[.int .u64 a,.int .u8 b,.int .u32 c]] w fun e w'=>e=.returned (.bool (decide (a=0∧b=0∧c=0)))∧Chg (fun _ _=>False) w w':=by
 refine X.begin (rg:=[]) (N:=[]) (ss:=[.agg [.int .u64 (.v a),.int .u8 (.v b),.int .u32 (.v c)]]) Tryz.func19 rfl B19_ok rfl rfl Sat.std0 ?_
 refine X.go T19_ok 400 _ rfl Tryz.results19 ?_
 conv=>arg 2;cbv
 refine X.done T19_ok rfl (fun N w' v hN hS hv=>⟨fin_bool hv ?_,hS.chg.mono fun k o _ h=>inR_nil h⟩)
 simp only [SB.den,SI.den]
 by_cases h1:a=0<;>by_cases h2:b=0<;>by_cases h3:c=0<;>simp [h1,h2,h3]
end Go.Proofs.YthpbefahaghbjaaGreat
namespace Go.Eng
open Go
theorem vk_eqI {E:Env} {N0:Nums} {rg:List Rg} {f:Fr} {g:GK} {t ty:TypeId} {x y:Operand} {kd:IntKind} {s1 s2:SI} (hx:evK f g x=some (.int kd s1)) (hy:evK f g y=some (.int kd s2)) (h:s1.den=s2.den):ValOk E N0 rg f g (.binOp .eql t x y ty) (.bool (.lit true)) :=
 vk_bin hx hy rfl fun ht N v hv=>by
  rw [←hv]
  simp [SV.den,SB.den,SI.den,eqI,h]
end Go.Eng
namespace Go.Proofs.YthpbefahaghbjaaGreat
open Go Go.Eng Go.Sort
def InM (p:Option Addr) (n:Nat) (l:List Int) (M:Mem):Prop:=n=l.length∧(0<n→∃ b y,p=some ⟨b,y,none⟩∧∀ j,j<n→M b (y+j)=some (.int .u8 l[j]!))
theorem InM.nil (p:Option Addr) (M:Mem):InM p 0 [] M:=⟨rfl,fun h=>absurd h (Nat.lt_irrefl 0)⟩
section
variable {P:Program} {fn:Func} {Q:Ending→World→Prop} {w w':World} {im:Mem} {D:Nat→Nat→Prop} {Rr:World→Prop} {B:SchT} {N:Nums} {rg rg0:List Rg} {p1:Num} {g0 g1:Rg} {b y K n r:Nat} {cs cs':List SV} {v:Value}
end
end Go.Proofs.YthpbefahaghbjaaGreat
namespace Go.Proofs.YthpbefahaghbjaaGreat
open Go Go.Eng
def rawL (vs:List Value):List SV:=vs.map .raw
theorem rawL_len (vs:List Value):(rawL vs).length=vs.length:=by simp [rawL]
theorem rawL_one {vs:List Value} (h:vs.all one?=true):(rawL vs).all SV.one=true:=by
 rw [List.all_eq_true] at h ⊢
 intro c hc
 obtain ⟨v,hv,rfl⟩:=List.mem_map.1 hc
 rfl
theorem rawL_den {vs:List Value} {c:SV} (hc:c∈rawL vs) {N N':Nums} {v:Value} (h:c.den N=some v):c.den N'=some v:=by
 obtain ⟨u,_,rfl⟩:=List.mem_map.1 hc
 exact h
theorem cloneI_ok (b y n cp:Nat) (vs:List Value) (w:World) (hn:vs.length=n*1) (h0:n≠0) (hle:n≤1000) (h1:vs.all one?=true) (hA:∀ (j:Nat) (v:Value),vs[j]?=some v→w.cell? ⟨b,y+j,none⟩=some v) :
  Calls Tryz.prog 44 #[.slice (some ⟨b,y,none⟩) n cp] w (FreshRet (rawL vs) n 1 w):=by
 obtain ⟨cs,hcs⟩:∃ cs,cs=rawL vs:=⟨_,rfl⟩
 have hlen:cs.length=n*1:=by rw [hcs,rawL_len,hn]
 rw [←hcs]
 refine X.begin (rg:=[]) (N:=[]) (ss:=[.slv (some ⟨b,y,none⟩) n cp]) Tryz.func44 rfl B44_ok rfl rfl Sat.std0 ?_
 refine X.addIm [(0,.val (.osl 0 0 n 1 (some cp)))] b y (cs:=cs) (by omega) (fun j x hj=>?_) (fun N hN=>?_) ?_
 ·rw [hcs] at hj
  simp only [rawL,List.getElem?_map,Option.map_eq_some_iff] at hj
  obtain ⟨v,hv,rfl⟩:=hj
  have ho:one? v=true:=List.all_eq_true.1 h1 v (List.mem_of_getElem? hv)
  exact ⟨v,fun _=>by simp [SV.den,ho],his (hA j v hv)⟩
 ·obtain rfl:N=[]:=List.eq_nil_of_length_eq_zero hN
  refine ⟨rfl,fun x h=>?_,trivial⟩
  simpa [SV.den,Num.cap] using h
 refine X.go T44_ok 16 _ rfl Tryz.results44 ?_
 conv=>arg 2;cbv
 apply X.opEq (T:=T44) T44_ok
 ·exact opE_append (te:=ti2) (new:=cs) (m:=n) rfl rfl rfl rfl rfl rfl rfl rfl (appSrc_row (g:=⟨false,cs,none⟩) rfl rfl rfl (by show cs.length=n*1;omega))
   (appV_new (te:=ti2) rfl h0 (appOk_ok (by decide) rfl (by show cs.length=n*1;omega) (by rw [hcs];exact rawL_one h1) (by show (2*(0+n)+256)*8≤_;omega) (by omega))) rfl
 refine X.go T44_ok 400 _ rfl Tryz.results44 ?_
 conv=>arg 2;cbv
 refine X.done T44_ok rfl (fun N w' v hN hS hv=>?_)
 exact freshRet_of hS (r:=2) rfl (by rw [hlen];omega) (List.prefix_refl _) (fun c hc N N' v h=>rawL_den (by rw [←hcs];exact hc) h) hv
theorem cloneIE_ok (a:Addr) (cp:Nat) (w:World):Calls Tryz.prog 44 #[.slice (some a) 0 cp] w (RoR [] 0 w):=by
 refine X.begin (rg:=[]) (N:=[]) (ss:=[.slv (some a) 0 cp]) Tryz.func44 rfl B44_ok rfl rfl Sat.std0 ?_
 refine X.go T44_ok 400 _ rfl Tryz.results44 ?_
 conv=>arg 2;cbv
 refine X.eqNil false rfl rfl rfl rfl Tryz.underlying36 (fun N _ _=>⟨_,_,_,rfl,rfl⟩) rfl ?_
 refine X.go T44_ok 400 _ rfl Tryz.results44 ?_
 conv=>arg 2;cbv
 refine X.app0 T44_ok rfl rfl rfl rfl rfl rfl rfl rfl rfl rfl (by decide) rfl (by decide) rfl ?_
 refine X.go T44_ok 400 _ rfl Tryz.results44 ?_
 conv=>arg 2;cbv
 refine X.done T44_ok rfl (fun N w' v hN hS hv=>?_)
 obtain ⟨p,hp⟩:∃ p,N[0]?=some p:=⟨_,List.getElem?_eq_getElem (by rw [hS.len];simp)⟩
 simp only [resV,SV.den,hp,Num.cap,Option.some.injEq] at hv
 exact ⟨p.b,p.o+0,_,by rw [←hv],fun h=>absurd h (Nat.lt_irrefl 0),hS.lt 0 p hp,fun j c hj=>by simp at hj,hS.chg.none⟩
theorem cloneIN_ok (cp:Nat) (w:World):Calls Tryz.prog 44 #[.slice none 0 cp] w fun e w'=>e=.returned (.slice none 0 0)∧Chg (fun _ _=>False) w w':=by
 refine X.begin (rg:=[]) (N:=[]) (ss:=[.slv none 0 cp]) Tryz.func44 rfl B44_ok rfl rfl Sat.std0 ?_
 refine X.go T44_ok 400 _ rfl Tryz.results44 ?_
 conv=>arg 2;cbv
 refine X.eqNil true rfl rfl rfl rfl Tryz.underlying36 (fun N _ _=>⟨_,_,_,rfl,rfl⟩) rfl ?_
 refine X.go T44_ok 400 _ rfl Tryz.results44 ?_
 conv=>arg 2;cbv
 refine X.done T44_ok rfl (fun N w' v hN hS hv=>?_)
 simp [resV,SV.den,one?] at hv
 exact ⟨by rw [←hv],hS.chg.none⟩
theorem cloneI_eff {E:Env} {N0:Nums} {rg:List Rg} {f:Fr} {po:Option Addr} {n co:Nat} {vs:List Value} {t:Nat} {cl:List SV} (hP:E.P=Tryz.prog) (hcl:cl=rawL vs) (hp:po≠none) (hle:n≤1000) (hn:vs.length=n*1) (h1:vs.all one?=true) (hA:0<n→∃ b y,po=some ⟨b,y,none⟩∧∀ w:World,(∀ k o v,E.im k o=some v→w.cell? ⟨k,o,none⟩=some v)→∀ (j:Nat) (v:Value),vs[j]?=some v→w.cell? ⟨b,y+j,none⟩=some v) (hev:ev f (.tmp t)=some (.slv po n co)) :
  EffOk E N0 rg f (.call { callee:=.value (.func 44),args:=#[.tmp t],argTypes:=#[36] }) (.osl rg.length 0 n 1 none) (rg++[⟨decide (n≠0),cl,none⟩]):=by
 by_cases h0:n=0
 ·subst h0
  have ho:vs=[]:=List.eq_nil_of_length_eq_zero (by omega)
  subst ho
  obtain rfl:cl=[]:=hcl
  refine EffOk.call (l:=[.slv po 0 co]) (by simp [evL,hev]) (by rw [hP];exact Tryz.call44) fun N w1 args hN hS ha=>?_
  simp only [SV.denL,SV.den,Option.some.injEq] at ha
  rw [←ha,hP]
  cases po with
  | none=>exact absurd rfl hp
  | some a =>
   refine (cloneIE_ok a co w1).mono fun e w' hr=>?_
   obtain ⟨N',v,h1,h2,h3,h4⟩:=hr.sat (sz:=1) (by decide) hS
   exact ⟨v,h1,N',h2,h3,h4⟩
 ·rw [decide_eq_true h0]
  obtain ⟨b,y,rfl,hB⟩:=hA (by omega)
  refine EffOk.fresh (l:=[.slv (some ⟨b,y,none⟩) n co]) (by simp [evL,hev]) (by rw [hP];exact Tryz.call44) fun N w1 args hN hS ha=>?_
  simp only [SV.denL,SV.den,Option.some.injEq] at ha
  rw [←ha,hP,hcl]
  exact cloneI_ok b y n co vs w1 hn h0 hle h1 (hB w1 hS.imm)
theorem cloneCell_ok (b y n cp:Nat) (vs:List Value) (w:World) (hn:vs.length=n*4) (h0:n≠0) (hle:n≤1000) (h1:vs.all one?=true) (hA:∀ (j:Nat) (v:Value),vs[j]?=some v→w.cell? ⟨b,y+j,none⟩=some v) :
  Calls Tryz.prog 45 #[.slice (some ⟨b,y,none⟩) n cp] w (FreshRet (rawL vs) n 4 w):=by
 obtain ⟨cs,hcs⟩:∃ cs,cs=rawL vs:=⟨_,rfl⟩
 have hlen:cs.length=n*4:=by rw [hcs,rawL_len,hn]
 rw [←hcs]
 refine X.begin (rg:=[]) (N:=[]) (ss:=[.slv (some ⟨b,y,none⟩) n cp]) Tryz.func45 rfl B45_ok rfl rfl Sat.std0 ?_
 refine X.addIm [(0,.val (.osl 0 0 n 4 (some cp)))] b y (cs:=cs) (by omega) (fun j x hj=>?_) (fun N hN=>?_) ?_
 ·rw [hcs] at hj
  simp only [rawL,List.getElem?_map,Option.map_eq_some_iff] at hj
  obtain ⟨v,hv,rfl⟩:=hj
  have ho:one? v=true:=List.all_eq_true.1 h1 v (List.mem_of_getElem? hv)
  exact ⟨v,fun _=>by simp [SV.den,ho],his (hA j v hv)⟩
 ·obtain rfl:N=[]:=List.eq_nil_of_length_eq_zero hN
  refine ⟨rfl,fun x h=>?_,trivial⟩
  simpa [SV.den,Num.cap] using h
 refine X.go T45_ok 16 _ rfl Tryz.results45 ?_
 conv=>arg 2;cbv
 apply X.opEq (T:=T45) T45_ok
 ·exact opE_append (te:=ti96) (new:=cs) (m:=n) rfl rfl rfl rfl rfl rfl rfl rfl (appSrc_row (g:=⟨false,cs,none⟩) rfl rfl rfl (by show cs.length=n*4;omega))
   (appV_new (te:=ti96) rfl h0 (appOk_ok (by decide) rfl (by show cs.length=n*4;omega) (by rw [hcs];exact rawL_one h1) (by show (2*(0+n)+256)*32≤_;omega) (by omega))) rfl
 refine X.go T45_ok 400 _ rfl Tryz.results45 ?_
 conv=>arg 2;cbv
 refine X.done T45_ok rfl (fun N w' v hN hS hv=>?_)
 exact freshRet_of hS (r:=2) rfl (by rw [hlen];omega) (List.prefix_refl _) (fun c hc N N' v h=>rawL_den (by rw [←hcs];exact hc) h) hv
theorem cloneCellE_ok (a:Addr) (cp:Nat) (w:World):Calls Tryz.prog 45 #[.slice (some a) 0 cp] w (RoR [] 0 w):=by
 refine X.begin (rg:=[]) (N:=[]) (ss:=[.slv (some a) 0 cp]) Tryz.func45 rfl B45_ok rfl rfl Sat.std0 ?_
 refine X.go T45_ok 400 _ rfl Tryz.results45 ?_
 conv=>arg 2;cbv
 refine X.eqNil false rfl rfl rfl rfl Tryz.underlying38 (fun N _ _=>⟨_,_,_,rfl,rfl⟩) rfl ?_
 refine X.go T45_ok 400 _ rfl Tryz.results45 ?_
 conv=>arg 2;cbv
 refine X.app0 T45_ok rfl rfl rfl rfl rfl rfl rfl rfl rfl rfl (by decide) rfl (by decide) rfl ?_
 refine X.go T45_ok 400 _ rfl Tryz.results45 ?_
 conv=>arg 2;cbv
 refine X.done T45_ok rfl (fun N w' v hN hS hv=>?_)
 obtain ⟨p,hp⟩:∃ p,N[0]?=some p:=⟨_,List.getElem?_eq_getElem (by rw [hS.len];simp)⟩
 simp only [resV,SV.den,hp,Num.cap,Option.some.injEq] at hv
 exact ⟨p.b,p.o+0,_,by rw [←hv],fun h=>absurd h (Nat.lt_irrefl 0),hS.lt 0 p hp,fun j c hj=>by simp at hj,hS.chg.none⟩
theorem cloneCellN_ok (cp:Nat) (w:World):Calls Tryz.prog 45 #[.slice none 0 cp] w fun e w'=>e=.returned (.slice none 0 0)∧Chg (fun _ _=>False) w w':=by
 refine X.begin (rg:=[]) (N:=[]) (ss:=[.slv none 0 cp]) Tryz.func45 rfl B45_ok rfl rfl Sat.std0 ?_
 refine X.go T45_ok 400 _ rfl Tryz.results45 ?_
 conv=>arg 2;cbv
 refine X.eqNil true rfl rfl rfl rfl Tryz.underlying38 (fun N _ _=>⟨_,_,_,rfl,rfl⟩) rfl ?_
 refine X.go T45_ok 400 _ rfl Tryz.results45 ?_
 conv=>arg 2;cbv
 refine X.done T45_ok rfl (fun N w' v hN hS hv=>?_)
 simp [resV,SV.den,one?] at hv
 exact ⟨by rw [←hv],hS.chg.none⟩
theorem cloneCell_eff {E:Env} {N0:Nums} {rg:List Rg} {f:Fr} {po:Option Addr} {n co:Nat} {vs:List Value} {t:Nat} {cl:List SV} (hP:E.P=Tryz.prog) (hcl:cl=rawL vs) (hp:po≠none) (hle:n≤1000) (hn:vs.length=n*4) (h1:vs.all one?=true) (hA:0<n→∃ b y,po=some ⟨b,y,none⟩∧∀ w:World,(∀ k o v,E.im k o=some v→w.cell? ⟨k,o,none⟩=some v)→∀ (j:Nat) (v:Value),vs[j]?=some v→w.cell? ⟨b,y+j,none⟩=some v) (hev:ev f (.tmp t)=some (.slv po n co)) :
  EffOk E N0 rg f (.call { callee:=.value (.func 45),args:=#[.tmp t],argTypes:=#[38] }) (.osl rg.length 0 n 4 none) (rg++[⟨decide (n≠0),cl,none⟩]):=by
 by_cases h0:n=0
 ·subst h0
  have ho:vs=[]:=List.eq_nil_of_length_eq_zero (by omega)
  subst ho
  obtain rfl:cl=[]:=hcl
  refine EffOk.call (l:=[.slv po 0 co]) (by simp [evL,hev]) (by rw [hP];exact Tryz.call45) fun N w1 args hN hS ha=>?_
  simp only [SV.denL,SV.den,Option.some.injEq] at ha
  rw [←ha,hP]
  cases po with
  | none=>exact absurd rfl hp
  | some a =>
   refine (cloneCellE_ok a co w1).mono fun e w' hr=>?_
   obtain ⟨N',v,h1,h2,h3,h4⟩:=hr.sat (sz:=4) (by decide) hS
   exact ⟨v,h1,N',h2,h3,h4⟩
 ·rw [decide_eq_true h0]
  obtain ⟨b,y,rfl,hB⟩:=hA (by omega)
  refine EffOk.fresh (l:=[.slv (some ⟨b,y,none⟩) n co]) (by simp [evL,hev]) (by rw [hP];exact Tryz.call45) fun N w1 args hN hS ha=>?_
  simp only [SV.denL,SV.den,Option.some.injEq] at ha
  rw [←ha,hP,hcl]
  exact cloneCell_ok b y n co vs w1 hn h0 hle h1 (hB w1 hS.imm)
theorem cloneMark_ok (b y n cp:Nat) (vs:List Value) (w:World) (hn:vs.length=n*3) (h0:n≠0) (hle:n≤1000) (h1:vs.all one?=true) (hA:∀ (j:Nat) (v:Value),vs[j]?=some v→w.cell? ⟨b,y+j,none⟩=some v) :
  Calls Tryz.prog 46 #[.slice (some ⟨b,y,none⟩) n cp] w (FreshRet (rawL vs) n 3 w):=by
 obtain ⟨cs,hcs⟩:∃ cs,cs=rawL vs:=⟨_,rfl⟩
 have hlen:cs.length=n*3:=by rw [hcs,rawL_len,hn]
 rw [←hcs]
 refine X.begin (rg:=[]) (N:=[]) (ss:=[.slv (some ⟨b,y,none⟩) n cp]) Tryz.func46 rfl B46_ok rfl rfl Sat.std0 ?_
 refine X.addIm [(0,.val (.osl 0 0 n 3 (some cp)))] b y (cs:=cs) (by omega) (fun j x hj=>?_) (fun N hN=>?_) ?_
 ·rw [hcs] at hj
  simp only [rawL,List.getElem?_map,Option.map_eq_some_iff] at hj
  obtain ⟨v,hv,rfl⟩:=hj
  have ho:one? v=true:=List.all_eq_true.1 h1 v (List.mem_of_getElem? hv)
  exact ⟨v,fun _=>by simp [SV.den,ho],his (hA j v hv)⟩
 ·obtain rfl:N=[]:=List.eq_nil_of_length_eq_zero hN
  refine ⟨rfl,fun x h=>?_,trivial⟩
  simpa [SV.den,Num.cap] using h
 refine X.go T46_ok 16 _ rfl Tryz.results46 ?_
 conv=>arg 2;cbv
 apply X.opEq (T:=T46) T46_ok
 ·exact opE_append (te:=ti99) (new:=cs) (m:=n) rfl rfl rfl rfl rfl rfl rfl rfl (appSrc_row (g:=⟨false,cs,none⟩) rfl rfl rfl (by show cs.length=n*3;omega))
   (appV_new (te:=ti99) rfl h0 (appOk_ok (by decide) rfl (by show cs.length=n*3;omega) (by rw [hcs];exact rawL_one h1) (by show (2*(0+n)+256)*24≤_;omega) (by omega))) rfl
 refine X.go T46_ok 400 _ rfl Tryz.results46 ?_
 conv=>arg 2;cbv
 refine X.done T46_ok rfl (fun N w' v hN hS hv=>?_)
 exact freshRet_of hS (r:=2) rfl (by rw [hlen];omega) (List.prefix_refl _) (fun c hc N N' v h=>rawL_den (by rw [←hcs];exact hc) h) hv
theorem cloneMarkE_ok (a:Addr) (cp:Nat) (w:World):Calls Tryz.prog 46 #[.slice (some a) 0 cp] w (RoR [] 0 w):=by
 refine X.begin (rg:=[]) (N:=[]) (ss:=[.slv (some a) 0 cp]) Tryz.func46 rfl B46_ok rfl rfl Sat.std0 ?_
 refine X.go T46_ok 400 _ rfl Tryz.results46 ?_
 conv=>arg 2;cbv
 refine X.eqNil false rfl rfl rfl rfl Tryz.underlying39 (fun N _ _=>⟨_,_,_,rfl,rfl⟩) rfl ?_
 refine X.go T46_ok 400 _ rfl Tryz.results46 ?_
 conv=>arg 2;cbv
 refine X.app0 T46_ok rfl rfl rfl rfl rfl rfl rfl rfl rfl rfl (by decide) rfl (by decide) rfl ?_
 refine X.go T46_ok 400 _ rfl Tryz.results46 ?_
 conv=>arg 2;cbv
 refine X.done T46_ok rfl (fun N w' v hN hS hv=>?_)
 obtain ⟨p,hp⟩:∃ p,N[0]?=some p:=⟨_,List.getElem?_eq_getElem (by rw [hS.len];simp)⟩
 simp only [resV,SV.den,hp,Num.cap,Option.some.injEq] at hv
 exact ⟨p.b,p.o+0,_,by rw [←hv],fun h=>absurd h (Nat.lt_irrefl 0),hS.lt 0 p hp,fun j c hj=>by simp at hj,hS.chg.none⟩
theorem cloneMarkN_ok (cp:Nat) (w:World):Calls Tryz.prog 46 #[.slice none 0 cp] w fun e w'=>e=.returned (.slice none 0 0)∧Chg (fun _ _=>False) w w':=by
 refine X.begin (rg:=[]) (N:=[]) (ss:=[.slv none 0 cp]) Tryz.func46 rfl B46_ok rfl rfl Sat.std0 ?_
 refine X.go T46_ok 400 _ rfl Tryz.results46 ?_
 conv=>arg 2;cbv
 refine X.eqNil true rfl rfl rfl rfl Tryz.underlying39 (fun N _ _=>⟨_,_,_,rfl,rfl⟩) rfl ?_
 refine X.go T46_ok 400 _ rfl Tryz.results46 ?_
 conv=>arg 2;cbv
 refine X.done T46_ok rfl (fun N w' v hN hS hv=>?_)
 simp [resV,SV.den,one?] at hv
 exact ⟨by rw [←hv],hS.chg.none⟩
theorem cloneMark_eff {E:Env} {N0:Nums} {rg:List Rg} {f:Fr} {po:Option Addr} {n co:Nat} {vs:List Value} {t:Nat} {cl:List SV} (hP:E.P=Tryz.prog) (hcl:cl=rawL vs) (hp:po≠none) (hle:n≤1000) (hn:vs.length=n*3) (h1:vs.all one?=true) (hA:0<n→∃ b y,po=some ⟨b,y,none⟩∧∀ w:World,(∀ k o v,E.im k o=some v→w.cell? ⟨k,o,none⟩=some v)→∀ (j:Nat) (v:Value),vs[j]?=some v→w.cell? ⟨b,y+j,none⟩=some v) (hev:ev f (.tmp t)=some (.slv po n co)) :
  EffOk E N0 rg f (.call { callee:=.value (.func 46),args:=#[.tmp t],argTypes:=#[39] }) (.osl rg.length 0 n 3 none) (rg++[⟨decide (n≠0),cl,none⟩]):=by
 by_cases h0:n=0
 ·subst h0
  have ho:vs=[]:=List.eq_nil_of_length_eq_zero (by omega)
  subst ho
  obtain rfl:cl=[]:=hcl
  refine EffOk.call (l:=[.slv po 0 co]) (by simp [evL,hev]) (by rw [hP];exact Tryz.call46) fun N w1 args hN hS ha=>?_
  simp only [SV.denL,SV.den,Option.some.injEq] at ha
  rw [←ha,hP]
  cases po with
  | none=>exact absurd rfl hp
  | some a =>
   refine (cloneMarkE_ok a co w1).mono fun e w' hr=>?_
   obtain ⟨N',v,h1,h2,h3,h4⟩:=hr.sat (sz:=3) (by decide) hS
   exact ⟨v,h1,N',h2,h3,h4⟩
 ·rw [decide_eq_true h0]
  obtain ⟨b,y,rfl,hB⟩:=hA (by omega)
  refine EffOk.fresh (l:=[.slv (some ⟨b,y,none⟩) n co]) (by simp [evL,hev]) (by rw [hP];exact Tryz.call46) fun N w1 args hN hS ha=>?_
  simp only [SV.denL,SV.den,Option.some.injEq] at ha
  rw [←ha,hP,hcl]
  exact cloneMark_ok b y n co vs w1 hn h0 hle h1 (hB w1 hS.imm)
theorem cloneDone_ok (b y n cp:Nat) (vs:List Value) (w:World) (hn:vs.length=n*6) (h0:n≠0) (hle:n≤1000) (h1:vs.all one?=true) (hA:∀ (j:Nat) (v:Value),vs[j]?=some v→w.cell? ⟨b,y+j,none⟩=some v) :
  Calls Tryz.prog 47 #[.slice (some ⟨b,y,none⟩) n cp] w (FreshRet (rawL vs) n 6 w):=by
 obtain ⟨cs,hcs⟩:∃ cs,cs=rawL vs:=⟨_,rfl⟩
 have hlen:cs.length=n*6:=by rw [hcs,rawL_len,hn]
 rw [←hcs]
 refine X.begin (rg:=[]) (N:=[]) (ss:=[.slv (some ⟨b,y,none⟩) n cp]) Tryz.func47 rfl B47_ok rfl rfl Sat.std0 ?_
 refine X.addIm [(0,.val (.osl 0 0 n 6 (some cp)))] b y (cs:=cs) (by omega) (fun j x hj=>?_) (fun N hN=>?_) ?_
 ·rw [hcs] at hj
  simp only [rawL,List.getElem?_map,Option.map_eq_some_iff] at hj
  obtain ⟨v,hv,rfl⟩:=hj
  have ho:one? v=true:=List.all_eq_true.1 h1 v (List.mem_of_getElem? hv)
  exact ⟨v,fun _=>by simp [SV.den,ho],his (hA j v hv)⟩
 ·obtain rfl:N=[]:=List.eq_nil_of_length_eq_zero hN
  refine ⟨rfl,fun x h=>?_,trivial⟩
  simpa [SV.den,Num.cap] using h
 refine X.go T47_ok 16 _ rfl Tryz.results47 ?_
 conv=>arg 2;cbv
 apply X.opEq (T:=T47) T47_ok
 ·exact opE_append (te:=ti89) (new:=cs) (m:=n) rfl rfl rfl rfl rfl rfl rfl rfl (appSrc_row (g:=⟨false,cs,none⟩) rfl rfl rfl (by show cs.length=n*6;omega))
   (appV_new (te:=ti89) rfl h0 (appOk_ok (by decide) rfl (by show cs.length=n*6;omega) (by rw [hcs];exact rawL_one h1) (by show (2*(0+n)+256)*64≤_;omega) (by omega))) rfl
 refine X.go T47_ok 400 _ rfl Tryz.results47 ?_
 conv=>arg 2;cbv
 refine X.done T47_ok rfl (fun N w' v hN hS hv=>?_)
 exact freshRet_of hS (r:=2) rfl (by rw [hlen];omega) (List.prefix_refl _) (fun c hc N N' v h=>rawL_den (by rw [←hcs];exact hc) h) hv
theorem cloneDoneE_ok (a:Addr) (cp:Nat) (w:World):Calls Tryz.prog 47 #[.slice (some a) 0 cp] w (RoR [] 0 w):=by
 refine X.begin (rg:=[]) (N:=[]) (ss:=[.slv (some a) 0 cp]) Tryz.func47 rfl B47_ok rfl rfl Sat.std0 ?_
 refine X.go T47_ok 400 _ rfl Tryz.results47 ?_
 conv=>arg 2;cbv
 refine X.eqNil false rfl rfl rfl rfl Tryz.underlying37 (fun N _ _=>⟨_,_,_,rfl,rfl⟩) rfl ?_
 refine X.go T47_ok 400 _ rfl Tryz.results47 ?_
 conv=>arg 2;cbv
 refine X.app0 T47_ok rfl rfl rfl rfl rfl rfl rfl rfl rfl rfl (by decide) rfl (by decide) rfl ?_
 refine X.go T47_ok 400 _ rfl Tryz.results47 ?_
 conv=>arg 2;cbv
 refine X.done T47_ok rfl (fun N w' v hN hS hv=>?_)
 obtain ⟨p,hp⟩:∃ p,N[0]?=some p:=⟨_,List.getElem?_eq_getElem (by rw [hS.len];simp)⟩
 simp only [resV,SV.den,hp,Num.cap,Option.some.injEq] at hv
 exact ⟨p.b,p.o+0,_,by rw [←hv],fun h=>absurd h (Nat.lt_irrefl 0),hS.lt 0 p hp,fun j c hj=>by simp at hj,hS.chg.none⟩
theorem cloneDoneN_ok (cp:Nat) (w:World):Calls Tryz.prog 47 #[.slice none 0 cp] w fun e w'=>e=.returned (.slice none 0 0)∧Chg (fun _ _=>False) w w':=by
 refine X.begin (rg:=[]) (N:=[]) (ss:=[.slv none 0 cp]) Tryz.func47 rfl B47_ok rfl rfl Sat.std0 ?_
 refine X.go T47_ok 400 _ rfl Tryz.results47 ?_
 conv=>arg 2;cbv
 refine X.eqNil true rfl rfl rfl rfl Tryz.underlying37 (fun N _ _=>⟨_,_,_,rfl,rfl⟩) rfl ?_
 refine X.go T47_ok 400 _ rfl Tryz.results47 ?_
 conv=>arg 2;cbv
 refine X.done T47_ok rfl (fun N w' v hN hS hv=>?_)
 simp [resV,SV.den,one?] at hv
 exact ⟨by rw [←hv],hS.chg.none⟩
theorem cloneDone_eff {E:Env} {N0:Nums} {rg:List Rg} {f:Fr} {po:Option Addr} {n co:Nat} {vs:List Value} {t:Nat} {cl:List SV} (hP:E.P=Tryz.prog) (hcl:cl=rawL vs) (hp:po≠none) (hle:n≤1000) (hn:vs.length=n*6) (h1:vs.all one?=true) (hA:0<n→∃ b y,po=some ⟨b,y,none⟩∧∀ w:World,(∀ k o v,E.im k o=some v→w.cell? ⟨k,o,none⟩=some v)→∀ (j:Nat) (v:Value),vs[j]?=some v→w.cell? ⟨b,y+j,none⟩=some v) (hev:ev f (.tmp t)=some (.slv po n co)) :
  EffOk E N0 rg f (.call { callee:=.value (.func 47),args:=#[.tmp t],argTypes:=#[37] }) (.osl rg.length 0 n 6 none) (rg++[⟨decide (n≠0),cl,none⟩]):=by
 by_cases h0:n=0
 ·subst h0
  have ho:vs=[]:=List.eq_nil_of_length_eq_zero (by omega)
  subst ho
  obtain rfl:cl=[]:=hcl
  refine EffOk.call (l:=[.slv po 0 co]) (by simp [evL,hev]) (by rw [hP];exact Tryz.call47) fun N w1 args hN hS ha=>?_
  simp only [SV.denL,SV.den,Option.some.injEq] at ha
  rw [←ha,hP]
  cases po with
  | none=>exact absurd rfl hp
  | some a =>
   refine (cloneDoneE_ok a co w1).mono fun e w' hr=>?_
   obtain ⟨N',v,h1,h2,h3,h4⟩:=hr.sat (sz:=6) (by decide) hS
   exact ⟨v,h1,N',h2,h3,h4⟩
 ·rw [decide_eq_true h0]
  obtain ⟨b,y,rfl,hB⟩:=hA (by omega)
  refine EffOk.fresh (l:=[.slv (some ⟨b,y,none⟩) n co]) (by simp [evL,hev]) (by rw [hP];exact Tryz.call47) fun N w1 args hN hS ha=>?_
  simp only [SV.denL,SV.den,Option.some.injEq] at ha
  rw [←ha,hP,hcl]
  exact cloneDone_ok b y n co vs w1 hn h0 hle h1 (hB w1 hS.imm)
end Go.Proofs.YthpbefahaghbjaaGreat
namespace Go.Eng
open Go
theorem flatten_get {α:Type} {K:Nat} (hK:0<K):∀ {vss:List (List α)},(∀ v∈vss,v.length=K)→∀ (j:Nat),vss.flatten[j]?=(vss[j / K]?).bind fun vs=>vs[j % K]?
 | [],_,j=>by simp
 | a::l,h,j=>by
  have ha:a.length=K:=h a List.mem_cons_self
  have ih:=flatten_get hK (vss:=l) fun v hv=>h v (List.mem_cons_of_mem _ hv)
  rw [List.flatten_cons]
  by_cases hj:j<K
  ·rw [List.getElem?_append_left (by omega),Nat.div_eq_of_lt hj,Nat.mod_eq_of_lt hj]
   rfl
  ·obtain ⟨m,rfl⟩:∃ m,j=m+K:=⟨j-K,by omega⟩
   rw [List.getElem?_append_right (by omega),ha,Nat.add_sub_cancel,ih m,Nat.add_div_right _ hK,Nat.add_mod_right]
   rfl
theorem flatten_len {α:Type} {K:Nat}:∀ {vss:List (List α)},(∀ v∈vss,v.length=K)→vss.flatten.length=vss.length*K
 | [],_=>by simp
 | a::l,h=>by
  rw [List.flatten_cons,List.length_append,flatten_len fun v hv=>h v (List.mem_cons_of_mem _ hv),h a List.mem_cons_self,List.length_cons,Nat.add_mul]
  omega
theorem SlR.rows {α:Type} {f:α→List Dt} {l:List α} {M:Mem} {p:Option Addr} {c K:Nat} (hs:SlR M p c K (l.map f)) (hK:∀ x:α,∀ vs,RepL M (f x) vs→vs.length=K) :
  ∃ vss:List (List Value),vss.length=l.length∧(∀ v∈vss,v.length=K)∧(∀ (i:Nat) (x:α),l[i]?=some x→∃ vs,vss[i]?=some vs∧RepL M (f x) vs) ∧
   (0<l.length→∃ b y,p=some ⟨b,y,none⟩∧∀ (i:Nat) (vs:List Value),vss[i]?=some vs→∀ (j:Nat) (v:Value),vs[j]?=some v→M b (y+i*K+j)=some v):=by
 obtain ⟨_,h | ⟨b,y,hp,h⟩⟩:=hs
 ·have hl:l=[]:=List.map_eq_nil_iff.1 h
  subst hl
  exact ⟨[],rfl,fun v hv=>by simp at hv,fun i x hx=>by simp at hx,fun h=>absurd h (Nat.lt_irrefl 0)⟩
 ·have hch:∀ i:Nat,∃ vs:List Value,∀ x,l[i]?=some x→RepL M (f x) vs∧∀ (j:Nat) (v:Value),vs[j]?=some v→M b (y+i*K+j)=some v:=fun i=>by
   cases hx:l[i]? with
   | none=>exact ⟨[],fun x e=>by cases e⟩
   | some x =>
    obtain ⟨vs,h1,h2⟩:=h i (f x) (by rw [List.getElem?_map,hx];rfl)
    exact ⟨vs,fun x' e=>by cases e;exact ⟨h1,h2⟩⟩
  obtain ⟨g,hg⟩:=Classical.axiomOfChoice hch
  have hget:∀ i x,l[i]?=some x→((List.range l.length).map g)[i]?=some (g i):=fun i x hx=>by
   have:=(List.getElem?_eq_some_iff.1 hx).1
   simp [this]
  refine ⟨(List.range l.length).map g,by simp,fun v hv=>?_,fun i x hx=>⟨g i,hget i x hx,(hg i x hx).1⟩,fun _=>⟨b,y,hp,fun i vs hi j v hj=>?_⟩⟩
  ·obtain ⟨i,hi,rfl⟩:=List.mem_map.1 hv
   have hi:i<l.length:=List.mem_range.1 hi
   exact hK l[i] _ (hg i l[i] (List.getElem?_eq_getElem hi)).1
  ·have hil:i<l.length:=by
    have:=(List.getElem?_eq_some_iff.1 hi).1
    simpa using this
   have e:=hget i l[i] (List.getElem?_eq_getElem hil)
   rw [e] at hi
   cases hi
   exact (hg i l[i] (List.getElem?_eq_getElem hil)).2 j v hj
theorem SlR.of {α:Type} {f:α→List Dt} {l:List α} {M:Mem} {p:Option Addr} {c K:Nat} {vss:List (List Value)} (hc:l.length≤c) (hm:l.length≤maxLen) (hl:vss.length=l.length) (hr:∀ (i:Nat) (x:α),l[i]?=some x→∃ vs,vss[i]?=some vs∧RepL M (f x) vs)
  (hM:0<l.length→∃ b y,p=some ⟨b,y,none⟩∧∀ (i:Nat) (vs:List Value),vss[i]?=some vs→∀ (j:Nat) (v:Value),vs[j]?=some v→M b (y+i*K+j)=some v):SlR M p c K (l.map f):=by
 refine ⟨⟨by simpa using hc,by simpa using hm⟩,?_⟩
 by_cases h0:l=[]
 ·exact .inl (by simp [h0])
 ·obtain ⟨b,y,hp,h⟩:=hM (List.length_pos_iff.2 h0)
  refine .inr ⟨b,y,hp,fun i d hd=>?_⟩
  rw [List.getElem?_map,Option.map_eq_some_iff] at hd
  obtain ⟨x,hx,rfl⟩:=hd
  obtain ⟨vs,h1,h2⟩:=hr i x hx
  exact ⟨vs,h2,h i vs h1⟩
end Go.Eng
namespace Go.Proofs.YthpbefahaghbjaaGreat
open Go Go.Eng
theorem i64_vals {x:Int} {M:Mem} {vs:List Value} (h:RepL M (i64D x) vs):vs.length=1∧vs.all one?=true∧∀ M',RepL M' (i64D x) vs:=by
 rw [i64D.open h];exact ⟨rfl,rfl,fun M'=>by simp [i64D,RepL,RepC]⟩
theorem cell_vals {x:CellP} {M:Mem} {vs:List Value} (h:RepL M x.toD vs):vs.length=4∧vs.all one?=true∧∀ M',RepL M' x.toD vs:=by
 rw [CellP.open h];exact ⟨rfl,rfl,fun M'=>by simp [CellP.toD,RepL,RepC]⟩
theorem mark_vals {x:MarkP} {M:Mem} {vs:List Value} (h:RepL M x.toD vs):vs.length=3∧vs.all one?=true∧∀ M',RepL M' x.toD vs:=by
 rw [MarkP.open h];exact ⟨rfl,rfl,fun M'=>by simp [MarkP.toD,RepL,RepC]⟩
theorem done_vals {x:DoneP} {M:Mem} {vs:List Value} (h:RepL M x.toD vs):vs.length=6∧vs.all one?=true:=by
 obtain ⟨p,c,rfl⟩:=DoneP.cells h;exact ⟨rfl,rfl⟩
def cV (p:Option Addr) (r n K:Nat):SV:=match p with
 | none=>.raw (.slice none 0 0)
 | some _=>.osl r 0 n K none
end Go.Proofs.YthpbefahaghbjaaGreat
namespace Go.Eng
open Go
theorem stepE_store {T:Tab} {rg:List Rg} {f:Fr} {t:TypeId} {x y:Operand} {r c:Nat} {v:SV} {ti:TI} {g:Rg} (hx:ev f x=some (.own r c)) (hy:ev f y=some v) (ht:lookT T t=some ti) (hg:nth rg r=some g) (hown:g.own=true) (hl:Nat.beq v.cells.length ti.size=true) (hle:c+ti.size≤g.cells.length) (h1:v.cells.all SV.one=true) :
  stepE T rg (ev f) (.store t x y)=some (.tup [],rg.set r { g with cells:=setRow g.cells c v.cells }):=by
 have hble:Nat.ble (c+ti.size) g.cells.length=true:=Nat.ble_eq_true_of_le hle
 simp only [stepE,hx,hy,ht,hg,hown,hl,hble,h1,Bool.and_self,cond_true]
theorem ValOk.conv {E:Env} {N0:Nums} {rg:List Rg} {f:Fr} {g:GK} {op:Op} {r r':SV} (h:ValOk E N0 rg f g op r) (hr:∀ N v,r.den N=some v→r'.den N=some v):ValOk E N0 rg f g op r':=fun ht N ρ o w h1 h2 h3 h4=>by
 obtain ⟨v,k1,k2⟩:=h ht N ρ o w h1 h2 h3 h4
 exact ⟨v,hr N v k1,k2⟩
theorem vk_lenV {E:Env} {N0:Nums} {rg:List Rg} {f:Fr} {g:GK} {x:Operand} {ts e n:Nat} {sx:SV} (hx:evK f g x=some sx) (hs:∀ N v,sx.den N=some v→∃ p c,v=.slice p n c) (hu:E.P.underlying ts=some (.slice e)):ValOk E N0 rg f g (.call { callee:=.builtin .len,args:=#[x],argTypes:=#[ts] }) (.int .i64 (.nat n)):=by
 intro ht N ρ op w hN0 hop hρ hV
 obtain ⟨q,k,hk⟩:=hs N _ (hρ _ _ hx)
 refine ⟨.int .i64 n,rfl,fun w' _=>?_⟩
 have h2:(Builtin.len_ #[ts] op.type #[.slice q n k]).run E.P w'=.ok (.int .i64 n) w':=by simp [Builtin.len_,run_underlying hu,Result.andThen,goInt]
 simp [execOp,hop,resolve,invoke,builtin,hk,h2]
theorem Sat.moreIm {P:Program} {fn:Func} {R:Ending→World→Prop} {W:World} {O:Nat→Nat→Prop} {im m':Mem} {D:Nat→Nat→Prop} {Rr:World→Prop} {N0 N:Nums} {B:SchT} {rg:List Rg} {w:World} (h:Sat (mkE P fn R W O im D Rr N0 B).toEnv N rg w)
  (h1:∀ k o v,m' k o=some v→w.cell? ⟨k,o,none⟩=some v) (h2:∀ (r:Nat) (g:Rg) (p:Num),rg[r]?=some g→N[r]?=some p→g.own=true→∀ j,j<p.x→m' p.b (p.o+j)=none):Sat (mkE P fn R W O m' D Rr N0 B).toEnv N rg w :=
 ⟨h.len,h.lt,h.cell,h.ext,h.room,h.disj,h.obj,h.odisj,h1,h2,h.dd,h.dlt,h.loc,h.res,h.chg,h.foot⟩
theorem At.seal {P:Program} {fn:Func} {R:Ending→World→Prop} {W:World} {O:Nat→Nat→Prop} {im m':Mem} {D:Nat→Nat→Prop} {Rr:World→Prop} {N:Nums} {B:SchT} {s s':St} {a:Act} {w:World} {ow:Bool} {cs:List SV} {q:Num} {k:Nat} {rg0:List Rg}
  (hf:FrOk fn.ntmps N s.fr a) (hS:Sat (mkE P fn R W O im D Rr [] B).toEnv N s.rg w) (hs:s.rg=rg0++[⟨ow,cs,none⟩]) (hk:k=rg0.length) (hq:N[k]?=some q) (hk':s'.rg.length=k) (h1:SubFr N (N.take k) k s.fr s'.fr)
  (h2:∀ (i:Nat) (x:Rg) (p:Num),s'.rg[i]?=some x→N[i]?=some p→∃ x0,rg0[i]?=some x0∧x.own=x0.own∧x.cells.length=x0.cells.length∧x.ob=none∧∀ (j:Nat) (c:SV),x.cells[j]?=some c→∃ c0,x0.cells[j]?=some c0∧∀ v,c0.den N=some v→c.den (N.take k)=some v)
  (hm:m'=fun k o=>match im k o with | some v=>some v | none=>if ow=true∧k=q.b∧q.o≤o∧o<q.o+cs.length then w.cell? ⟨k,o,none⟩ else none) :
  At (mkE P fn R W O m' D Rr [] B) s' a w:=by
 have hlen:=hS.len
 rw [hs,List.length_append,List.length_singleton] at hlen
 have hNt:(N.take k).length=s'.rg.length:=by rw [List.length_take,hk'];omega
 have hP:Sat (mkE P fn R W O im D Rr [] B).toEnv (N.take k) s'.rg w:=by
  refine hS.perm hNt (fun i=>i) (fun i j h=>h) fun i x p hx hp=>?_
  have hi:i<k:=by have:=(List.getElem?_eq_some_iff.1 hx).1;omega
  rw [List.getElem?_take,if_pos hi] at hp
  obtain ⟨x0,k1,k2,k3,k4,k5⟩:=h2 i x p hx hp
  have hi0:i<rg0.length:=by omega
  exact ⟨x0,by show s.rg[i]?=some x0;rw [hs,List.getElem?_append_left hi0];exact k1,hp,k2,k3,k4,k5⟩
 have hR:=hP.moreIm (m':=m') (fun k o v hv=>?_) (fun r g p hg hp ho j hj=>?_)
 ·refine ⟨N.take k,by intro r p hp;simp at hp,?_,hR⟩
  exact hf.sub h1
 ·rw [hm] at hv
  simp only at hv
  split at hv
  ·rename_i u hu
   cases hv
   exact hS.imm _ _ _ hu
  ·split at hv
   ·exact hv
   ·cases hv
 ·rw [hm]
  have e:=hP.imd r g p hg hp ho j hj
  have e':im p.b (p.o+j)=none:=e
  simp only [e']
  rw [if_neg]
  rintro ⟨ho2,hb,h3,h4⟩
  have hr:r<k:=by have:=(List.getElem?_eq_some_iff.1 hg).1;omega
  have hp':=hp
  rw [List.getElem?_take,if_pos hr] at hp'
  obtain ⟨x0,k1,k2,k3,_,_⟩:=h2 r g p hg hp'
  have hg0:s.rg[r]?=some x0:=by rw [hs,List.getElem?_append_left (by omega)];exact k1
  have hgk:s.rg[k]?=some ⟨ow,cs,none⟩:=by rw [hs,hk];simp
  have hx:=hS.ext k _ q hgk hq ho2
  have hw:(p.o+j)-q.o<Rg.wid ⟨ow,cs,none⟩ q:=by
   unfold Rg.wid
   simp only [ho2]
   simp only at hx
   first | omega | (simp;omega)
  have:=hS.disj r k x0 _ p q hg0 hp' hgk hq (by rw [←k2];exact ho) (by omega) ((p.o+j)-q.o) hw hb.symm
  omega
end Go.Eng
namespace Go.Proofs.YthpbefahaghbjaaGreat
open Go Go.Eng
theorem cloneI_cV {E:Env} {N0:Nums} {rg:List Rg} {f:Fr} {po:Option Addr} {n co:Nat} {vs:List Value} {t:Nat} {cl:List SV} {ow:Bool} (hP:E.P=Tryz.prog) (hcl:cl=rawL vs) (how:ow=decide (n≠0)) (hle:n≤1000) (hn:vs.length=n*1) (h1:vs.all one?=true) (hA:0<n→∃ b y,po=some ⟨b,y,none⟩∧∀ w:World,(∀ k o v,E.im k o=some v→w.cell? ⟨k,o,none⟩=some v)→∀ (j:Nat) (v:Value),vs[j]?=some v→w.cell? ⟨b,y+j,none⟩=some v) (hev:ev f (.tmp t)=some (.slv po n co)) (hne:0<rg.length) :
  EffOk E N0 rg f (.call { callee:=.value (.func 44),args:=#[.tmp t],argTypes:=#[36] }) (cV po rg.length n 1) (rg++[⟨ow,cl,none⟩]):=by
 subst how
 cases po with
 | some a=>exact cloneI_eff hP hcl (by simp) hle hn h1 hA hev
 | none =>
  have h0:n=0:=by
   rcases Nat.eq_zero_or_pos n with h | h
   ·exact h
   ·obtain ⟨b,y,hb,_⟩:=hA h
    cases hb
  subst h0
  have ho:vs=[]:=List.eq_nil_of_length_eq_zero (by omega)
  subst ho
  obtain rfl:cl=[]:=hcl
  refine EffOk.call (l:=[.slv none 0 co]) (by simp [evL,hev]) (by rw [hP];exact Tryz.call44) fun N w1 args hN hS ha=>?_
  simp only [SV.denL,SV.den,Option.some.injEq] at ha
  rw [←ha,hP]
  refine (cloneIN_ok co w1).mono fun e w' ⟨he,hc⟩=>?_
  obtain ⟨p0,hp0⟩:∃ p,N[0]?=some p:=⟨_,List.getElem?_eq_getElem (by rw [hS.len];exact hne)⟩
  have h':=hS.after0 hc
  exact ⟨_,he,N++[⟨p0.b,0,0⟩],Nums.le_append _ _,by simp [cV,SV.den,one?],Sat.addRoW h' (s0:=w'.heap.size) (fun r p hp=>h'.lt r p hp) (fun h=>absurd h (by simp)) (h'.lt 0 p0 hp0) (fun j c hj=>by simp at hj)⟩
theorem cloneCell_cV {E:Env} {N0:Nums} {rg:List Rg} {f:Fr} {po:Option Addr} {n co:Nat} {vs:List Value} {t:Nat} {cl:List SV} {ow:Bool} (hP:E.P=Tryz.prog) (hcl:cl=rawL vs) (how:ow=decide (n≠0)) (hle:n≤1000) (hn:vs.length=n*4) (h1:vs.all one?=true) (hA:0<n→∃ b y,po=some ⟨b,y,none⟩∧∀ w:World,(∀ k o v,E.im k o=some v→w.cell? ⟨k,o,none⟩=some v)→∀ (j:Nat) (v:Value),vs[j]?=some v→w.cell? ⟨b,y+j,none⟩=some v) (hev:ev f (.tmp t)=some (.slv po n co)) (hne:0<rg.length) :
  EffOk E N0 rg f (.call { callee:=.value (.func 45),args:=#[.tmp t],argTypes:=#[38] }) (cV po rg.length n 4) (rg++[⟨ow,cl,none⟩]):=by
 subst how
 cases po with
 | some a=>exact cloneCell_eff hP hcl (by simp) hle hn h1 hA hev
 | none =>
  have h0:n=0:=by
   rcases Nat.eq_zero_or_pos n with h | h
   ·exact h
   ·obtain ⟨b,y,hb,_⟩:=hA h
    cases hb
  subst h0
  have ho:vs=[]:=List.eq_nil_of_length_eq_zero (by omega)
  subst ho
  obtain rfl:cl=[]:=hcl
  refine EffOk.call (l:=[.slv none 0 co]) (by simp [evL,hev]) (by rw [hP];exact Tryz.call45) fun N w1 args hN hS ha=>?_
  simp only [SV.denL,SV.den,Option.some.injEq] at ha
  rw [←ha,hP]
  refine (cloneCellN_ok co w1).mono fun e w' ⟨he,hc⟩=>?_
  obtain ⟨p0,hp0⟩:∃ p,N[0]?=some p:=⟨_,List.getElem?_eq_getElem (by rw [hS.len];exact hne)⟩
  have h':=hS.after0 hc
  exact ⟨_,he,N++[⟨p0.b,0,0⟩],Nums.le_append _ _,by simp [cV,SV.den,one?],Sat.addRoW h' (s0:=w'.heap.size) (fun r p hp=>h'.lt r p hp) (fun h=>absurd h (by simp)) (h'.lt 0 p0 hp0) (fun j c hj=>by simp at hj)⟩
theorem cloneMark_cV {E:Env} {N0:Nums} {rg:List Rg} {f:Fr} {po:Option Addr} {n co:Nat} {vs:List Value} {t:Nat} {cl:List SV} {ow:Bool} (hP:E.P=Tryz.prog) (hcl:cl=rawL vs) (how:ow=decide (n≠0)) (hle:n≤1000) (hn:vs.length=n*3) (h1:vs.all one?=true) (hA:0<n→∃ b y,po=some ⟨b,y,none⟩∧∀ w:World,(∀ k o v,E.im k o=some v→w.cell? ⟨k,o,none⟩=some v)→∀ (j:Nat) (v:Value),vs[j]?=some v→w.cell? ⟨b,y+j,none⟩=some v) (hev:ev f (.tmp t)=some (.slv po n co)) (hne:0<rg.length) :
  EffOk E N0 rg f (.call { callee:=.value (.func 46),args:=#[.tmp t],argTypes:=#[39] }) (cV po rg.length n 3) (rg++[⟨ow,cl,none⟩]):=by
 subst how
 cases po with
 | some a=>exact cloneMark_eff hP hcl (by simp) hle hn h1 hA hev
 | none =>
  have h0:n=0:=by
   rcases Nat.eq_zero_or_pos n with h | h
   ·exact h
   ·obtain ⟨b,y,hb,_⟩:=hA h
    cases hb
  subst h0
  have ho:vs=[]:=List.eq_nil_of_length_eq_zero (by omega)
  subst ho
  obtain rfl:cl=[]:=hcl
  refine EffOk.call (l:=[.slv none 0 co]) (by simp [evL,hev]) (by rw [hP];exact Tryz.call46) fun N w1 args hN hS ha=>?_
  simp only [SV.denL,SV.den,Option.some.injEq] at ha
  rw [←ha,hP]
  refine (cloneMarkN_ok co w1).mono fun e w' ⟨he,hc⟩=>?_
  obtain ⟨p0,hp0⟩:∃ p,N[0]?=some p:=⟨_,List.getElem?_eq_getElem (by rw [hS.len];exact hne)⟩
  have h':=hS.after0 hc
  exact ⟨_,he,N++[⟨p0.b,0,0⟩],Nums.le_append _ _,by simp [cV,SV.den,one?],Sat.addRoW h' (s0:=w'.heap.size) (fun r p hp=>h'.lt r p hp) (fun h=>absurd h (by simp)) (h'.lt 0 p0 hp0) (fun j c hj=>by simp at hj)⟩
theorem cloneDone_cV {E:Env} {N0:Nums} {rg:List Rg} {f:Fr} {po:Option Addr} {n co:Nat} {vs:List Value} {t:Nat} {cl:List SV} {ow:Bool} (hP:E.P=Tryz.prog) (hcl:cl=rawL vs) (how:ow=decide (n≠0)) (hle:n≤1000) (hn:vs.length=n*6) (h1:vs.all one?=true) (hA:0<n→∃ b y,po=some ⟨b,y,none⟩∧∀ w:World,(∀ k o v,E.im k o=some v→w.cell? ⟨k,o,none⟩=some v)→∀ (j:Nat) (v:Value),vs[j]?=some v→w.cell? ⟨b,y+j,none⟩=some v) (hev:ev f (.tmp t)=some (.slv po n co)) (hne:0<rg.length) :
  EffOk E N0 rg f (.call { callee:=.value (.func 47),args:=#[.tmp t],argTypes:=#[37] }) (cV po rg.length n 6) (rg++[⟨ow,cl,none⟩]):=by
 subst how
 cases po with
 | some a=>exact cloneDone_eff hP hcl (by simp) hle hn h1 hA hev
 | none =>
  have h0:n=0:=by
   rcases Nat.eq_zero_or_pos n with h | h
   ·exact h
   ·obtain ⟨b,y,hb,_⟩:=hA h
    cases hb
  subst h0
  have ho:vs=[]:=List.eq_nil_of_length_eq_zero (by omega)
  subst ho
  obtain rfl:cl=[]:=hcl
  refine EffOk.call (l:=[.slv none 0 co]) (by simp [evL,hev]) (by rw [hP];exact Tryz.call47) fun N w1 args hN hS ha=>?_
  simp only [SV.denL,SV.den,Option.some.injEq] at ha
  rw [←ha,hP]
  refine (cloneDoneN_ok co w1).mono fun e w' ⟨he,hc⟩=>?_
  obtain ⟨p0,hp0⟩:∃ p,N[0]?=some p:=⟨_,List.getElem?_eq_getElem (by rw [hS.len];exact hne)⟩
  have h':=hS.after0 hc
  exact ⟨_,he,N++[⟨p0.b,0,0⟩],Nums.le_append _ _,by simp [cV,SV.den,one?],Sat.addRoW h' (s0:=w'.heap.size) (fun r p hp=>h'.lt r p hp) (fun h=>absurd h (by simp)) (h'.lt 0 p0 hp0) (fun j c hj=>by simp at hj)⟩
theorem ones_of {α:Type} {f:α→List Dt} {l:List α} {M:Mem} {vss:List (List Value)} (hl:vss.length=l.length) (hr:∀ (i:Nat) (x:α),l[i]?=some x→∃ vs,vss[i]?=some vs∧RepL M (f x) vs) (h1:∀ x vs,RepL M (f x) vs→vs.all one?=true):vss.flatten.all one?=true:=by
 rw [List.all_eq_true]
 intro v hv
 obtain ⟨vs,h2,h3⟩:=List.mem_flatten.1 hv
 obtain ⟨i,hi,rfl⟩:=List.getElem_of_mem h2
 obtain ⟨vs',h4,h5⟩:=hr i l[i] (List.getElem?_eq_getElem (by omega))
 rw [List.getElem?_eq_getElem hi] at h4
 cases h4
 exact List.all_eq_true.1 (h1 _ _ h5) v h3
def mU (w:World) (Mo im:Mem):Mem:=fun k o=>match Mo k o with
 | some v=>some v
 | none=>if w.heap.size≤k then im k o else none
theorem mU_old {w:World} {Mo im:Mem}:∀ k o v,Mo k o=some v→mU w Mo im k o=some v:=fun k o v h=>by simp [mU,h]
theorem mU_in {w:World} {Mo im:Mem} (h:∀ k o v,Mo k o=some v→im k o=some v):∀ k o v,mU w Mo im k o=some v→im k o=some v:=fun k o v hv=>by
 unfold mU at hv
 split at hv
 ·rename_i u hu
  cases hv
  exact h _ _ _ hu
 ·split at hv
  ·exact hv
  ·cases hv
theorem mU_mono {w:World} {Mo im im':Mem} (h:∀ k o v,im k o=some v→im' k o=some v):∀ k o v,mU w Mo im k o=some v→mU w Mo im' k o=some v:=fun k o v hv=>by
 unfold mU at hv ⊢
 split at hv
 ·rename_i u hu
  simp only [hv]
 ·rename_i hu
  split at hv
  ·rename_i hk
   simp only [hk,if_true]
   exact h _ _ _ hv
  ·cases hv
theorem cV_sl {p:Option Addr} {r n K:Nat} {N:Nums} {v:Value} (h0:p=none→n=0) (hv:(cV p r n K).den N=some v):∃ q c,v=.slice q n c:=by
 cases p with
 | none =>
  rw [h0 rfl] at hv ⊢
  simp [cV,SV.den,one?] at hv
  exact ⟨none,0,hv.symm⟩
 | some a =>
  simp only [cV,SV.den] at hv
  cases hp:N[r]? with
  | none=>simp [hp] at hv
  | some q =>
   simp only [hp,Option.some.injEq] at hv
   exact ⟨_,_,hv.symm⟩
structure ClI (w:World) (Mo im0:Mem) (l:List DoneP) (im:Mem) (vss:List (List Value)):Prop where
 him:∀ k o v,im0 k o=some v→im k o=some v
 len:vss.length=l.length
 six:∀ v∈vss,v.length=6
 rep:∀ (j:Nat) (x:DoneP),l[j]?=some x→∃ vs,vss[j]?=some vs∧RepL (mU w Mo im) x.toD vs
theorem rawL_bd {vs:List Value} {m:Nat}:(rawL vs).all (bd m)=true:=List.all_eq_true.2 fun c hc=>by
 obtain ⟨v,_,rfl⟩:=List.mem_map.1 hc
 rfl
theorem cV_cells (p:Option Addr) (r n K:Nat):(cV p r n K).cells=[cV p r n K]∧SV.one (cV p r n K)=true:=by
 cases p<;>exact ⟨rfl,rfl⟩
theorem flat_set {α:Type} {K:Nat} (hK:0<K) {vss:List (List α)} (h:∀ v∈vss,v.length=K) {i k:Nat} {vs:List α} (hi:vss[i]?=some vs) (hk:k<K) (u:α):(vss.set i (vs.set k u)).flatten=vss.flatten.set (i*K+k) u:=by
 have hil:=(List.getElem?_eq_some_iff.1 hi).1
 have hvs:vs.length=K:=h vs (List.mem_of_getElem? hi)
 have h':∀ v∈vss.set i (vs.set k u),v.length=K:=fun v hv=>by
  rcases List.mem_or_eq_of_mem_set hv with h1 | rfl
  ·exact h v h1
  ·rw [List.length_set,hvs]
 have hd:∀ j,(i*K+k=j↔i=j / K∧k=j % K):=fun j=>by
  constructor
  ·rintro rfl
   rw [Nat.mul_comm,Nat.mul_add_div hK,Nat.mul_add_mod,Nat.div_eq_of_lt hk,Nat.mod_eq_of_lt hk]
   exact ⟨rfl,rfl⟩
  ·rintro ⟨rfl,rfl⟩
   rw [Nat.mul_comm];exact Nat.div_add_mod j K
 refine List.ext_getElem? fun j=>?_
 rw [flatten_get hK h',List.getElem?_set,List.getElem?_set,flatten_get hK h,flatten_len h]
 by_cases hj:i*K+k=j
 ·obtain ⟨h1,h2⟩:=(hd j).1 hj
  rw [if_pos hj,if_pos h1,if_pos hil,if_pos]
  ·rw [Option.bind_some,List.getElem?_set,if_pos h2,if_pos (by omega)]
  ·have:i*K+K≤vss.length*K:=by rw [←Nat.succ_mul];exact Nat.mul_le_mul_right K hil
   omega
 ·rw [if_neg hj]
  by_cases h1:i=j / K
  ·rw [if_pos h1,if_pos hil,←h1,hi,Option.bind_some,Option.bind_some,List.getElem?_set,if_neg fun h2=>hj ((hd j).2 ⟨h1,h2⟩)]
  ·rw [if_neg h1]
theorem DoneP.rep {x:DoneP} {M:Mem} {p:Option Addr} {c:Nat} (h:SlR M p c 1 (x.reply.vars.map i64D)):RepL M x.toD [.int .u8 x.client,.int .u64 x.seq,.int .i64 x.reply.err,.int .u64 x.reply.inc,.int .i64 x.reply.state,.slice p x.reply.vars.length c]:=by
 simp only [DoneP.toD,RepP.toD,RepL]
 exact ⟨_,_,rfl,by simp [RepC],_,_,rfl,by simp [RepC],_,_,rfl,by simp [RepC],_,_,rfl,by simp [RepC],_,_,rfl,by simp [RepC],_,_,rfl,RepC.mk (by simp) sz_i64 h,rfl⟩
def capV (p:Option Addr) (c:Nat):Nat:=match p with
 | none=>0
 | some _=>c
theorem cV_val {p:Option Addr} {r n K:Nat} {N:Nums} {q:Num} (hq:N[r]?=some q) (h0:p=none→n=0):(cV p r n K).den N=some (.slice (p.map fun _=>⟨q.b,q.o,none⟩) n (capV p (q.x / K))):=by
 cases p with
 | none=>rw [h0 rfl];simp [cV,capV,SV.den,one?]
 | some a=>simp [cV,capV,SV.den,hq,Num.cap]
theorem cloned {α:Type} {f:α→List Dt} {l:List α} {P:Program} {fn:Func} {Q:Ending→World→Prop} {w w':World} {im:Mem} {D:Nat→Nat→Prop} {Rr:World→Prop} {N0 N:Nums} {B:SchT} {rg:List Rg} {r n K:Nat} {q:Num} {p:Option Addr} {vss:List (List Value)} {M:Mem}
  (hS:Sat (mkE P fn Q w (InR [] []) im D Rr N0 B).toEnv N rg w') (hr:rg[r]?=some ⟨decide (n≠0),rawL vss.flatten,none⟩) (hq:N[r]?=some q) (hK:0<K) (hn:n=l.length) (hle:n≤maxLen) (hl:vss.length=l.length) (hk:∀ v∈vss,v.length=K) (hp:p=none→n=0)
  (hrep:∀ (i:Nat) (x:α),l[i]?=some x→∃ vs,vss[i]?=some vs∧RepL M (f x) vs) (hM:∀ j v,w.heap.size≤q.b→w'.cell? ⟨q.b,q.o+j,none⟩=some v→j<n*K→M q.b (q.o+j)=some v):SlR M (p.map fun _=>⟨q.b,q.o,none⟩) (capV p (q.x / K)) K (l.map f):=by
 have hfl:(rawL vss.flatten).length=n*K:=by rw [rawL_len,flatten_len hk,hl,hn]
 cases p with
 | none =>
  have h0:=hp rfl
  have:l=[]:=List.eq_nil_of_length_eq_zero (by omega)
  subst this
  exact ⟨⟨by simp,by simp⟩,.inl rfl⟩
 | some a =>
  by_cases h0:n=0
  ·have:l=[]:=List.eq_nil_of_length_eq_zero (by omega)
   subst this
   exact ⟨⟨by simp,by simp⟩,.inl rfl⟩
  rw [decide_eq_true h0] at hr
  have hx:=hS.ext r _ q hr hq rfl
  rw [hfl] at hx
  refine SlR.of (vss:=vss) (by rw [←hn];exact (Nat.le_div_iff_mul_le hK).2 hx) (by omega) hl hrep fun _=>⟨q.b,q.o,rfl,fun i vs hi j v hj=>?_⟩
  have hb:w.heap.size≤q.b:=by
   rcases hS.foot r _ _ hr hq rfl with h | h
   ·exact h
   ·exact absurd (h 0 (by have:0<n*K:=Nat.mul_pos (by omega) hK;omega)) inR_nil
  have hil:=(List.getElem?_eq_some_iff.1 hi).1
  have hjK:j<K:=by
   have h1:=(List.getElem?_eq_some_iff.1 hj).1
   rwa [hk vs (List.mem_of_getElem? hi)] at h1
  have hf:vss.flatten[i*K+j]?=some v:=by
   rw [flatten_get hK hk,show (i*K+j) / K=i by rw [Nat.mul_comm i K,Nat.mul_add_div hK,Nat.div_eq_of_lt hjK,Nat.add_zero],show (i*K+j) % K=j by rw [Nat.mul_comm i K,Nat.mul_add_mod,Nat.mod_eq_of_lt hjK],hi]
   exact hj
  obtain ⟨u,h1,h2⟩:=hS.cell r _ q hr hq (i*K+j) (.raw v) (by show (rawL vss.flatten)[i*K+j]?=_;rw [rawL,List.getElem?_map,hf];rfl)
  have hu:u=v:=by
   simp only [SV.den] at h1
   split at h1
   ·exact (Option.some.inj h1).symm
   ·cases h1
  rw [Nat.add_assoc]
  refine hM _ _ hb (by rw [h2,hu]) ?_
  have:i*K+K≤n*K:=by rw [←Nat.succ_mul];exact Nat.mul_le_mul_right K (by omega)
  omega
theorem RegP.rep {k i s l:Int} {v:List Int} {o:List DoneP} {u:List CellP} {m:List MarkP} {M:Mem} {p1 p2 p3 p4:Option Addr} {c1 c2 c3 c4:Nat} (h1:SlR M p1 c1 1 (v.map i64D)) (h2:SlR M p2 c2 6 (o.map DoneP.toD)) (h3:SlR M p3 c3 4 (u.map CellP.toD)) (h4:SlR M p4 c4 3 (m.map MarkP.toD)) :
  RepL M (RegP.toD ⟨k,i,s,v,o,u,l,m⟩) [.int .u8 k,.int .u64 i,.int .i64 s,.slice p1 v.length c1,.slice p2 o.length c2,.slice p3 u.length c3,.int .u64 l,.slice p4 m.length c4]:=by
 simp only [RegP.toD,RepL]
 exact ⟨_,_,rfl,by simp [RepC],_,_,rfl,by simp [RepC],_,_,rfl,by simp [RepC],_,_,rfl,RepC.mk (by simp) sz_i64 h1,_,_,rfl,RepC.mk (by simp) sz_done h2,_,_,rfl,RepC.mk (by simp) sz_cell h3,_,_,rfl,by simp [RepC],_,_,rfl,RepC.mk (by simp) sz_mark h4,rfl⟩
def RegC (a:RegP) (Mo:Mem) (w:World):Ending→World→Prop:=fun e w' =>
 (∃ vb,e=.returned (.agg vb.toArray)∧∀ M:Mem,(∀ k o v,Mo k o=some v→M k o=some v)→(∀ k o v,w.heap.size≤k→w'.cell? ⟨k,o,none⟩=some v→M k o=some v)→RepL M a.toD vb)∧Chg (fun _ _=>False) w w'
def NewVars (w w':World) (p:Option Addr) (l:List Int):Prop:=l≠[]→∃ b y,p=some ⟨b,y,none⟩∧w.heap.size≤b∧∀ (j:Nat) (z:Int),l[j]?=some z→w'.cell? ⟨b,y+j,none⟩=some (.int .i64 z)∧w'.frozen? ⟨b,y+j,none⟩=false
def RegCN (a:RegP) (Mo:Mem) (w:World) (e:Ending) (w':World):Prop :=
 (∃ vb,e=.returned (.agg vb.toArray)∧(∀ M:Mem,(∀ k o v,Mo k o=some v→M k o=some v)→(∀ k o v,w.heap.size≤k→w'.cell? ⟨k,o,none⟩=some v→M k o=some v)→RepL M a.toD vb)∧∃ p c,vb[3]?=some (.slice p a.vars.length c)∧NewVars w w' p a.vars)∧Chg (fun _ _=>False) w w'
theorem regCloneN_ok (a:RegP) (va:List Value) (Mo:Mem) (w:World) (hMo:∀ k o v,Mo k o=some v→w.cell? ⟨k,o,none⟩=some v) (ha:RepL Mo a.toD va) (hgr:¬a.great) :
  Calls Tryz.prog 22 #[.agg va.toArray] w (RegCN a Mo w):=by
 obtain ⟨Q,hQ⟩:∃ Q:Ending→World→Prop,Q=RegCN a Mo w:=⟨_,rfl⟩
 rw [←hQ]
 obtain ⟨p1,c1,p2,c2,p3,c3,p4,c4,rfl,sa1,sa2,sa3,sa4⟩:=RegP.open ha
 clear ha
 obtain ⟨k1,i1,s1,v1,o1,u1,l1,m1⟩:=a
 simp only [RegP.great,not_or,Nat.not_lt,not_exists,not_and] at hgr
 simp only at sa1 sa2 sa3 sa4 ⊢
 obtain ⟨g1,g2,g3,g4,g5⟩:=hgr
 obtain ⟨vs1,hl1,hk1,hr1,hm1⟩:=sa1.rows (K:=1) fun x vs h=>(i64_vals h).1
 obtain ⟨vs2,hl2,hk2,hr2,hm2⟩:=sa2.rows (K:=6) fun x vs h=>(done_vals h).1
 obtain ⟨vs3,hl3,hk3,hr3,hm3⟩:=sa3.rows (K:=4) fun x vs h=>(cell_vals h).1
 obtain ⟨vs4,hl4,hk4,hr4,hm4⟩:=sa4.rows (K:=3) fun x vs h=>(mark_vals h).1
 obtain ⟨n1,hn1⟩:∃ n,n=v1.length:=⟨_,rfl⟩
 obtain ⟨n2,hn2⟩:∃ n,n=o1.length:=⟨_,rfl⟩
 obtain ⟨n3,hn3⟩:∃ n,n=u1.length:=⟨_,rfl⟩
 obtain ⟨n4,hn4⟩:∃ n,n=m1.length:=⟨_,rfl⟩
 rw [←hn1,←hn2,←hn3,←hn4]
 obtain ⟨d1,hd1⟩:∃ c,c=rawL vs1.flatten:=⟨_,rfl⟩
 obtain ⟨d2,hd2⟩:∃ c,c=rawL vs2.flatten:=⟨_,rfl⟩
 obtain ⟨d3,hd3⟩:∃ c,c=rawL vs3.flatten:=⟨_,rfl⟩
 obtain ⟨d4,hd4⟩:∃ c,c=rawL vs4.flatten:=⟨_,rfl⟩
 obtain ⟨w1,hw1⟩:∃ b,b=decide (n1≠0):=⟨_,rfl⟩
 obtain ⟨w2,hw2⟩:∃ b,b=decide (n2≠0):=⟨_,rfl⟩
 obtain ⟨w3,hw3⟩:∃ b,b=decide (n3≠0):=⟨_,rfl⟩
 obtain ⟨w4,hw4⟩:∃ b,b=decide (n4≠0):=⟨_,rfl⟩
 refine X.begin (rg:=[]) (N:=[]) (ss:=[.agg [.int .u8 (.v k1),.int .u64 (.v i1),.int .i64 (.v s1),.slv p1 n1 c1,.slv p2 n2 c2,.slv p3 n3 c3,.int .u64 (.v l1),.slv p4 n4 c4]]) Tryz.func22 rfl B22_ok rfl rfl Sat.std0 ?_
 obtain ⟨im,hime⟩:∃ im,im=elsewhere [] [] w:=⟨_,rfl⟩
 have him:∀ k o v,Mo k o=some v→im k o=some v:=fun k o v h=>by rw [hime];exact his (hMo k o v h)
 have hA:∀ {p:Option Addr} {n K:Nat} {vss:List (List Value)} {m:Nat},0<K→(∀ v∈vss,v.length=K)→m=n→(0<m→∃ b y,p=some ⟨b,y,none⟩∧∀ (i:Nat) (vs:List Value),vss[i]?=some vs→∀ (j:Nat) (v:Value),vs[j]?=some v→Mo b (y+i*K+j)=some v) →
   (0<n→∃ b y,p=some ⟨b,y,none⟩∧∀ w':World,(∀ k o v,im k o=some v→w'.cell? ⟨k,o,none⟩=some v)→∀ (j:Nat) (v:Value),vss.flatten[j]?=some v→w'.cell? ⟨b,y+j,none⟩=some v):=fun {p n K vss m} hK hv hmn h hp=>by
  subst hmn
  obtain ⟨b,y,hb,h2⟩:=h hp
  refine ⟨b,y,hb,fun w' hw j v hj=>?_⟩
  rw [flatten_get hK hv,Option.bind_eq_some_iff] at hj
  obtain ⟨vs,h3,h4⟩:=hj
  have:=hw _ _ _ (him _ _ _ (h2 _ _ h3 _ _ h4))
  rwa [Nat.add_assoc,Nat.mul_comm,Nat.div_add_mod] at this
 show X (mkE Tryz.prog Tryz.f22 Q w (InR [] []) (elsewhere [] [] w) (fun _ _=>False) (fun _=>True) [] B22) _ _
 rw [←hime]
 refine X.go T22_ok 400 _ rfl Tryz.results22 ?_
 conv=>arg 2;cbv
 refine (fun (h:∀ k,X (mkE Tryz.prog Tryz.f22 Q w (InR [] []) im (fun _ _=>False) (fun _=>True) [] B22) k ⟨[(2,.val (.own 1 0)),(1,.val (.own 0 0))],[⟨true,[.int .u8 (.v k1),.int .u64 (.v i1),.int .i64 (.v s1),cV p1 2 n1 1,cV p2 5 n2 6,cV p3 3 n3 4,.int .u64 (.v l1),cV p4 4 n4 3],none⟩,⟨true,[.int .u8 (.lit 0),.int .u64 (.lit 0),.int .i64 (.lit 0),.raw (.slice none 0 0),.raw (.slice none 0 0),.raw (.slice none 0 0),.int .u64 (.lit 0),.raw (.slice none 0 0)],none⟩,⟨w1,d1,none⟩,⟨w3,d3,none⟩,⟨w4,d4,none⟩,⟨w2,d2,none⟩]⟩→X (mkE Tryz.prog Tryz.f22 Q w (InR [] []) im (fun _ _=>False) (fun _=>True) [] B22) (It.code _::k) _)=>h _ ?_) (fun k hk=>?_)
 rotate_left
 ·have e1:=fun {rg:List Rg} {f:Fr} {t:Nat}=>cloneI_cV (E:=(mkE Tryz.prog Tryz.f22 Q w (InR [] []) im (fun _ _=>False) (fun _=>True) [] B22).toEnv) (N0:=[]) (rg:=rg) (f:=f) (t:=t) (po:=p1) (co:=c1) rfl hd1 hw1 (by omega) (by rw [flatten_len hk1];omega) (ones_of hl1 hr1 fun x vs h=>(i64_vals h).2.1) (hA (by decide) hk1 hn1.symm hm1)
  have e2:=fun {rg:List Rg} {f:Fr} {t:Nat}=>cloneDone_cV (E:=(mkE Tryz.prog Tryz.f22 Q w (InR [] []) im (fun _ _=>False) (fun _=>True) [] B22).toEnv) (N0:=[]) (rg:=rg) (f:=f) (t:=t) (po:=p2) (co:=c2) rfl hd2 hw2 (by omega) (by rw [flatten_len hk2];omega) (ones_of hl2 hr2 fun x vs h=>(done_vals h).2) (hA (by decide) hk2 hn2.symm hm2)
  have e3:=fun {rg:List Rg} {f:Fr} {t:Nat}=>cloneCell_cV (E:=(mkE Tryz.prog Tryz.f22 Q w (InR [] []) im (fun _ _=>False) (fun _=>True) [] B22).toEnv) (N0:=[]) (rg:=rg) (f:=f) (t:=t) (po:=p3) (co:=c3) rfl hd3 hw3 (by omega) (by rw [flatten_len hk3];omega) (ones_of hl3 hr3 fun x vs h=>(cell_vals h).2.1) (hA (by decide) hk3 hn3.symm hm3)
  have e4:=fun {rg:List Rg} {f:Fr} {t:Nat}=>cloneMark_cV (E:=(mkE Tryz.prog Tryz.f22 Q w (InR [] []) im (fun _ _=>False) (fun _=>True) [] B22).toEnv) (N0:=[]) (rg:=rg) (f:=f) (t:=t) (po:=p4) (co:=c4) rfl hd4 hw4 (by omega) (by rw [flatten_len hk4];omega) (ones_of hl4 hr4 fun x vs h=>(mark_vals h).2.1) (hA (by decide) hk4 hn4.symm hm4)
  clear hA him hMo sa1 sa2 sa3 sa4 hr1 hr2 hr3 hr4 hm1 hm2 hm3 hm4 hQ hime
  rcases p1 with _ | a1<;>rcases p3 with _ | a3<;>rcases p4 with _ | a4<;>rcases p2 with _ | a2
  ·skip
   refine X.goX ([]) ([(6,⟨fun rg=>cV none rg.length n1 1,[],[⟨w1,d1,none⟩]⟩),(9,⟨fun rg=>cV none rg.length n3 4,[],[⟨w3,d3,none⟩]⟩),(12,⟨fun rg=>cV none rg.length n4 3,[],[⟨w4,d4,none⟩]⟩),(15,⟨fun rg=>cV none rg.length n2 6,[],[⟨w2,d2,none⟩]⟩)]) T22_ok 1 _ rfl Tryz.results22 (fun pr pe fin hpr hpe hfin=>?_)
   conv=>cbv
   refine ⟨hpe _ _ _ _ _ (e1 rfl (Nat.succ_pos _)),hpe _ _ _ _ _ (e3 rfl (Nat.succ_pos _)),hpe _ _ _ _ _ (e4 rfl (Nat.succ_pos _)),hpe _ _ _ _ _ (e2 rfl (Nat.succ_pos _)),?_⟩
   repeat refine ⟨rfl,?_⟩
   exact hfin _ _ (X.less [1,2] hk)
  ·skip
   refine X.goX ([]) ([(6,⟨fun rg=>cV none rg.length n1 1,[],[⟨w1,d1,none⟩]⟩),(9,⟨fun rg=>cV none rg.length n3 4,[],[⟨w3,d3,none⟩]⟩),(12,⟨fun rg=>cV none rg.length n4 3,[],[⟨w4,d4,none⟩]⟩),(15,⟨fun rg=>cV (some a2) rg.length n2 6,[],[⟨w2,d2,none⟩]⟩)]) T22_ok 1 _ rfl Tryz.results22 (fun pr pe fin hpr hpe hfin=>?_)
   conv=>cbv
   refine ⟨hpe _ _ _ _ _ (e1 rfl (Nat.succ_pos _)),hpe _ _ _ _ _ (e3 rfl (Nat.succ_pos _)),hpe _ _ _ _ _ (e4 rfl (Nat.succ_pos _)),hpe _ _ _ _ _ (e2 rfl (Nat.succ_pos _)),?_⟩
   repeat refine ⟨rfl,?_⟩
   exact hfin _ _ (X.less [1,2] hk)
  ·skip
   refine X.goX ([]) ([(6,⟨fun rg=>cV none rg.length n1 1,[],[⟨w1,d1,none⟩]⟩),(9,⟨fun rg=>cV none rg.length n3 4,[],[⟨w3,d3,none⟩]⟩),(12,⟨fun rg=>cV (some a4) rg.length n4 3,[],[⟨w4,d4,none⟩]⟩),(15,⟨fun rg=>cV none rg.length n2 6,[],[⟨w2,d2,none⟩]⟩)]) T22_ok 1 _ rfl Tryz.results22 (fun pr pe fin hpr hpe hfin=>?_)
   conv=>cbv
   refine ⟨hpe _ _ _ _ _ (e1 rfl (Nat.succ_pos _)),hpe _ _ _ _ _ (e3 rfl (Nat.succ_pos _)),hpe _ _ _ _ _ (e4 rfl (Nat.succ_pos _)),hpe _ _ _ _ _ (e2 rfl (Nat.succ_pos _)),?_⟩
   repeat refine ⟨rfl,?_⟩
   exact hfin _ _ (X.less [1,2] hk)
  ·skip
   refine X.goX ([]) ([(6,⟨fun rg=>cV none rg.length n1 1,[],[⟨w1,d1,none⟩]⟩),(9,⟨fun rg=>cV none rg.length n3 4,[],[⟨w3,d3,none⟩]⟩),(12,⟨fun rg=>cV (some a4) rg.length n4 3,[],[⟨w4,d4,none⟩]⟩),(15,⟨fun rg=>cV (some a2) rg.length n2 6,[],[⟨w2,d2,none⟩]⟩)]) T22_ok 1 _ rfl Tryz.results22 (fun pr pe fin hpr hpe hfin=>?_)
   conv=>cbv
   refine ⟨hpe _ _ _ _ _ (e1 rfl (Nat.succ_pos _)),hpe _ _ _ _ _ (e3 rfl (Nat.succ_pos _)),hpe _ _ _ _ _ (e4 rfl (Nat.succ_pos _)),hpe _ _ _ _ _ (e2 rfl (Nat.succ_pos _)),?_⟩
   repeat refine ⟨rfl,?_⟩
   exact hfin _ _ (X.less [1,2] hk)
  ·skip
   refine X.goX ([]) ([(6,⟨fun rg=>cV none rg.length n1 1,[],[⟨w1,d1,none⟩]⟩),(9,⟨fun rg=>cV (some a3) rg.length n3 4,[],[⟨w3,d3,none⟩]⟩),(12,⟨fun rg=>cV none rg.length n4 3,[],[⟨w4,d4,none⟩]⟩),(15,⟨fun rg=>cV none rg.length n2 6,[],[⟨w2,d2,none⟩]⟩)]) T22_ok 1 _ rfl Tryz.results22 (fun pr pe fin hpr hpe hfin=>?_)
   conv=>cbv
   refine ⟨hpe _ _ _ _ _ (e1 rfl (Nat.succ_pos _)),hpe _ _ _ _ _ (e3 rfl (Nat.succ_pos _)),hpe _ _ _ _ _ (e4 rfl (Nat.succ_pos _)),hpe _ _ _ _ _ (e2 rfl (Nat.succ_pos _)),?_⟩
   repeat refine ⟨rfl,?_⟩
   exact hfin _ _ (X.less [1,2] hk)
  ·skip
   refine X.goX ([]) ([(6,⟨fun rg=>cV none rg.length n1 1,[],[⟨w1,d1,none⟩]⟩),(9,⟨fun rg=>cV (some a3) rg.length n3 4,[],[⟨w3,d3,none⟩]⟩),(12,⟨fun rg=>cV none rg.length n4 3,[],[⟨w4,d4,none⟩]⟩),(15,⟨fun rg=>cV (some a2) rg.length n2 6,[],[⟨w2,d2,none⟩]⟩)]) T22_ok 1 _ rfl Tryz.results22 (fun pr pe fin hpr hpe hfin=>?_)
   conv=>cbv
   refine ⟨hpe _ _ _ _ _ (e1 rfl (Nat.succ_pos _)),hpe _ _ _ _ _ (e3 rfl (Nat.succ_pos _)),hpe _ _ _ _ _ (e4 rfl (Nat.succ_pos _)),hpe _ _ _ _ _ (e2 rfl (Nat.succ_pos _)),?_⟩
   repeat refine ⟨rfl,?_⟩
   exact hfin _ _ (X.less [1,2] hk)
  ·skip
   refine X.goX ([]) ([(6,⟨fun rg=>cV none rg.length n1 1,[],[⟨w1,d1,none⟩]⟩),(9,⟨fun rg=>cV (some a3) rg.length n3 4,[],[⟨w3,d3,none⟩]⟩),(12,⟨fun rg=>cV (some a4) rg.length n4 3,[],[⟨w4,d4,none⟩]⟩),(15,⟨fun rg=>cV none rg.length n2 6,[],[⟨w2,d2,none⟩]⟩)]) T22_ok 1 _ rfl Tryz.results22 (fun pr pe fin hpr hpe hfin=>?_)
   conv=>cbv
   refine ⟨hpe _ _ _ _ _ (e1 rfl (Nat.succ_pos _)),hpe _ _ _ _ _ (e3 rfl (Nat.succ_pos _)),hpe _ _ _ _ _ (e4 rfl (Nat.succ_pos _)),hpe _ _ _ _ _ (e2 rfl (Nat.succ_pos _)),?_⟩
   repeat refine ⟨rfl,?_⟩
   exact hfin _ _ (X.less [1,2] hk)
  ·skip
   refine X.goX ([]) ([(6,⟨fun rg=>cV none rg.length n1 1,[],[⟨w1,d1,none⟩]⟩),(9,⟨fun rg=>cV (some a3) rg.length n3 4,[],[⟨w3,d3,none⟩]⟩),(12,⟨fun rg=>cV (some a4) rg.length n4 3,[],[⟨w4,d4,none⟩]⟩),(15,⟨fun rg=>cV (some a2) rg.length n2 6,[],[⟨w2,d2,none⟩]⟩)]) T22_ok 1 _ rfl Tryz.results22 (fun pr pe fin hpr hpe hfin=>?_)
   conv=>cbv
   refine ⟨hpe _ _ _ _ _ (e1 rfl (Nat.succ_pos _)),hpe _ _ _ _ _ (e3 rfl (Nat.succ_pos _)),hpe _ _ _ _ _ (e4 rfl (Nat.succ_pos _)),hpe _ _ _ _ _ (e2 rfl (Nat.succ_pos _)),?_⟩
   repeat refine ⟨rfl,?_⟩
   exact hfin _ _ (X.less [1,2] hk)
  ·skip
   refine X.goX ([]) ([(6,⟨fun rg=>cV (some a1) rg.length n1 1,[],[⟨w1,d1,none⟩]⟩),(9,⟨fun rg=>cV none rg.length n3 4,[],[⟨w3,d3,none⟩]⟩),(12,⟨fun rg=>cV none rg.length n4 3,[],[⟨w4,d4,none⟩]⟩),(15,⟨fun rg=>cV none rg.length n2 6,[],[⟨w2,d2,none⟩]⟩)]) T22_ok 1 _ rfl Tryz.results22 (fun pr pe fin hpr hpe hfin=>?_)
   conv=>cbv
   refine ⟨hpe _ _ _ _ _ (e1 rfl (Nat.succ_pos _)),hpe _ _ _ _ _ (e3 rfl (Nat.succ_pos _)),hpe _ _ _ _ _ (e4 rfl (Nat.succ_pos _)),hpe _ _ _ _ _ (e2 rfl (Nat.succ_pos _)),?_⟩
   repeat refine ⟨rfl,?_⟩
   exact hfin _ _ (X.less [1,2] hk)
  ·skip
   refine X.goX ([]) ([(6,⟨fun rg=>cV (some a1) rg.length n1 1,[],[⟨w1,d1,none⟩]⟩),(9,⟨fun rg=>cV none rg.length n3 4,[],[⟨w3,d3,none⟩]⟩),(12,⟨fun rg=>cV none rg.length n4 3,[],[⟨w4,d4,none⟩]⟩),(15,⟨fun rg=>cV (some a2) rg.length n2 6,[],[⟨w2,d2,none⟩]⟩)]) T22_ok 1 _ rfl Tryz.results22 (fun pr pe fin hpr hpe hfin=>?_)
   conv=>cbv
   refine ⟨hpe _ _ _ _ _ (e1 rfl (Nat.succ_pos _)),hpe _ _ _ _ _ (e3 rfl (Nat.succ_pos _)),hpe _ _ _ _ _ (e4 rfl (Nat.succ_pos _)),hpe _ _ _ _ _ (e2 rfl (Nat.succ_pos _)),?_⟩
   repeat refine ⟨rfl,?_⟩
   exact hfin _ _ (X.less [1,2] hk)
  ·skip
   refine X.goX ([]) ([(6,⟨fun rg=>cV (some a1) rg.length n1 1,[],[⟨w1,d1,none⟩]⟩),(9,⟨fun rg=>cV none rg.length n3 4,[],[⟨w3,d3,none⟩]⟩),(12,⟨fun rg=>cV (some a4) rg.length n4 3,[],[⟨w4,d4,none⟩]⟩),(15,⟨fun rg=>cV none rg.length n2 6,[],[⟨w2,d2,none⟩]⟩)]) T22_ok 1 _ rfl Tryz.results22 (fun pr pe fin hpr hpe hfin=>?_)
   conv=>cbv
   refine ⟨hpe _ _ _ _ _ (e1 rfl (Nat.succ_pos _)),hpe _ _ _ _ _ (e3 rfl (Nat.succ_pos _)),hpe _ _ _ _ _ (e4 rfl (Nat.succ_pos _)),hpe _ _ _ _ _ (e2 rfl (Nat.succ_pos _)),?_⟩
   repeat refine ⟨rfl,?_⟩
   exact hfin _ _ (X.less [1,2] hk)
  ·skip
   refine X.goX ([]) ([(6,⟨fun rg=>cV (some a1) rg.length n1 1,[],[⟨w1,d1,none⟩]⟩),(9,⟨fun rg=>cV none rg.length n3 4,[],[⟨w3,d3,none⟩]⟩),(12,⟨fun rg=>cV (some a4) rg.length n4 3,[],[⟨w4,d4,none⟩]⟩),(15,⟨fun rg=>cV (some a2) rg.length n2 6,[],[⟨w2,d2,none⟩]⟩)]) T22_ok 1 _ rfl Tryz.results22 (fun pr pe fin hpr hpe hfin=>?_)
   conv=>cbv
   refine ⟨hpe _ _ _ _ _ (e1 rfl (Nat.succ_pos _)),hpe _ _ _ _ _ (e3 rfl (Nat.succ_pos _)),hpe _ _ _ _ _ (e4 rfl (Nat.succ_pos _)),hpe _ _ _ _ _ (e2 rfl (Nat.succ_pos _)),?_⟩
   repeat refine ⟨rfl,?_⟩
   exact hfin _ _ (X.less [1,2] hk)
  ·skip
   refine X.goX ([]) ([(6,⟨fun rg=>cV (some a1) rg.length n1 1,[],[⟨w1,d1,none⟩]⟩),(9,⟨fun rg=>cV (some a3) rg.length n3 4,[],[⟨w3,d3,none⟩]⟩),(12,⟨fun rg=>cV none rg.length n4 3,[],[⟨w4,d4,none⟩]⟩),(15,⟨fun rg=>cV none rg.length n2 6,[],[⟨w2,d2,none⟩]⟩)]) T22_ok 1 _ rfl Tryz.results22 (fun pr pe fin hpr hpe hfin=>?_)
   conv=>cbv
   refine ⟨hpe _ _ _ _ _ (e1 rfl (Nat.succ_pos _)),hpe _ _ _ _ _ (e3 rfl (Nat.succ_pos _)),hpe _ _ _ _ _ (e4 rfl (Nat.succ_pos _)),hpe _ _ _ _ _ (e2 rfl (Nat.succ_pos _)),?_⟩
   repeat refine ⟨rfl,?_⟩
   exact hfin _ _ (X.less [1,2] hk)
  ·skip
   refine X.goX ([]) ([(6,⟨fun rg=>cV (some a1) rg.length n1 1,[],[⟨w1,d1,none⟩]⟩),(9,⟨fun rg=>cV (some a3) rg.length n3 4,[],[⟨w3,d3,none⟩]⟩),(12,⟨fun rg=>cV none rg.length n4 3,[],[⟨w4,d4,none⟩]⟩),(15,⟨fun rg=>cV (some a2) rg.length n2 6,[],[⟨w2,d2,none⟩]⟩)]) T22_ok 1 _ rfl Tryz.results22 (fun pr pe fin hpr hpe hfin=>?_)
   conv=>cbv
   refine ⟨hpe _ _ _ _ _ (e1 rfl (Nat.succ_pos _)),hpe _ _ _ _ _ (e3 rfl (Nat.succ_pos _)),hpe _ _ _ _ _ (e4 rfl (Nat.succ_pos _)),hpe _ _ _ _ _ (e2 rfl (Nat.succ_pos _)),?_⟩
   repeat refine ⟨rfl,?_⟩
   exact hfin _ _ (X.less [1,2] hk)
  ·skip
   refine X.goX ([]) ([(6,⟨fun rg=>cV (some a1) rg.length n1 1,[],[⟨w1,d1,none⟩]⟩),(9,⟨fun rg=>cV (some a3) rg.length n3 4,[],[⟨w3,d3,none⟩]⟩),(12,⟨fun rg=>cV (some a4) rg.length n4 3,[],[⟨w4,d4,none⟩]⟩),(15,⟨fun rg=>cV none rg.length n2 6,[],[⟨w2,d2,none⟩]⟩)]) T22_ok 1 _ rfl Tryz.results22 (fun pr pe fin hpr hpe hfin=>?_)
   conv=>cbv
   refine ⟨hpe _ _ _ _ _ (e1 rfl (Nat.succ_pos _)),hpe _ _ _ _ _ (e3 rfl (Nat.succ_pos _)),hpe _ _ _ _ _ (e4 rfl (Nat.succ_pos _)),hpe _ _ _ _ _ (e2 rfl (Nat.succ_pos _)),?_⟩
   repeat refine ⟨rfl,?_⟩
   exact hfin _ _ (X.less [1,2] hk)
  ·skip
   refine X.goX ([]) ([(6,⟨fun rg=>cV (some a1) rg.length n1 1,[],[⟨w1,d1,none⟩]⟩),(9,⟨fun rg=>cV (some a3) rg.length n3 4,[],[⟨w3,d3,none⟩]⟩),(12,⟨fun rg=>cV (some a4) rg.length n4 3,[],[⟨w4,d4,none⟩]⟩),(15,⟨fun rg=>cV (some a2) rg.length n2 6,[],[⟨w2,d2,none⟩]⟩)]) T22_ok 1 _ rfl Tryz.results22 (fun pr pe fin hpr hpe hfin=>?_)
   conv=>cbv
   refine ⟨hpe _ _ _ _ _ (e1 rfl (Nat.succ_pos _)),hpe _ _ _ _ _ (e3 rfl (Nat.succ_pos _)),hpe _ _ _ _ _ (e4 rfl (Nat.succ_pos _)),hpe _ _ _ _ _ (e2 rfl (Nat.succ_pos _)),?_⟩
   repeat refine ⟨rfl,?_⟩
   exact hfin _ _ (X.less [1,2] hk)
 refine X.goX ([(22,.int .i64 (.nat n2))]) ([]) T22_ok 400 _ rfl Tryz.results22 (fun pr pe fin hpr hpe hfin=>?_)
 conv=>cbv
 have hcv2:∀ (N:Nums) (v:Value),(cV p2 5 n2 6).den N=some v→∃ p c,v=.slice p n2 c:=fun N v hv=>cV_sl (fun h=>by
  rcases Nat.eq_zero_or_pos n2 with h0 | h0
  ·exact h0
  ·obtain ⟨b,y,hb,_⟩:=hm2 (by omega)
   rw [h] at hb;cases hb) hv
 refine ⟨hpr _ (vk_lenV (sx:=cV p2 5 n2 6) rfl hcv2 Tryz.underlying37),hfin _ _ ?_⟩
 clear hpr hpe hfin
 refine X.loop (fun g:{g:Nat × Mem × List (List Value) // g.1≤n2∧ClI w Mo im o1 g.2.1 g.2.2}=>mkE Tryz.prog Tryz.f22 Q w (InR [] []) g.1.2.1 (fun _ _=>False) (fun _=>True) [] B22)
  (fun g=>⟨[(2,.val (.own 1 0)),(1,.val (.own 0 0)),(22,.val (.int .i64 (.nat n2))),(23,.val (.int .i64 (.nat g.1.1)))],[⟨true,[.int .u8 (.v k1),.int .u64 (.v i1),.int .i64 (.v s1),cV p1 2 n1 1,cV p2 5 n2 6,cV p3 3 n3 4,.int .u64 (.v l1),cV p4 4 n4 3],none⟩,⟨true,[.int .u8 (.lit 0),.int .u64 (.lit 0),.int .i64 (.lit 0),.raw (.slice none 0 0),.raw (.slice none 0 0),.raw (.slice none 0 0),.int .u64 (.lit 0),.raw (.slice none 0 0)],none⟩,⟨w1,d1,none⟩,⟨w3,d3,none⟩,⟨w4,d4,none⟩,⟨w2,rawL g.1.2.2.flatten,none⟩]⟩) (fun g=>n2-g.1.1) (fun _=>⟨rfl,rfl,rfl,rfl⟩) (fun N ac w' hN hf hS=>⟨⟨(0,im,vs2),Nat.zero_le _,⟨fun _ _ _ h=>h,hl2,hk2,fun j x hx=>?_⟩⟩,?_⟩) (fun g q hq=>?_)
 ·obtain ⟨vs,h1,h2⟩:=hr2 j x hx
  exact ⟨vs,h1,h2.mono mU_old⟩
 ·show At (mkE Tryz.prog Tryz.f22 Q w (InR [] []) im (fun _ _=>False) (fun _=>True) [] B22) ⟨[(2,.val (.own 1 0)),(1,.val (.own 0 0)),(22,.val (.int .i64 (.nat n2))),(23,.val (.int .i64 (.nat 0)))],[⟨true,[.int .u8 (.v k1),.int .u64 (.v i1),.int .i64 (.v s1),cV p1 2 n1 1,cV p2 5 n2 6,cV p3 3 n3 4,.int .u64 (.v l1),cV p4 4 n4 3],none⟩,⟨true,[.int .u8 (.lit 0),.int .u64 (.lit 0),.int .i64 (.lit 0),.raw (.slice none 0 0),.raw (.slice none 0 0),.raw (.slice none 0 0),.int .u64 (.lit 0),.raw (.slice none 0 0)],none⟩,⟨w1,d1,none⟩,⟨w3,d3,none⟩,⟨w4,d4,none⟩,⟨w2,rawL vs2.flatten,none⟩]⟩ ac w'
  have hR0:[SV.int .u8 (.v k1),.int .u64 (.v i1),.int .i64 (.v s1),cV p1 2 n1 1,cV p2 5 n2 6,cV p3 3 n3 4,.int .u64 (.v l1),cV p4 4 n4 3].all (bd 6)=true:=by cases p1<;>cases p2<;>cases p3<;>cases p4<;>rfl
  exact At.again hf hS (by repeat first | exact trivial | refine ⟨⟨_,rfl,.inl ⟨rfl,rfl⟩⟩,?_⟩ | refine ⟨⟨_,rfl,.inr ⟨_,rfl,rfl⟩⟩,?_⟩ | refine ⟨⟨_,rfl,.inr ⟨_,rfl,by simp (disch:=omega) [SV.den,SI.den,wrapU,wrapD]<;>omega⟩⟩,?_⟩) ⟨fun h=>h,SubC.refl hR0,rfl,fun h=>h,SubC.refl rfl,rfl,fun h=>h,SubC.refl (by rw [hd1];exact rawL_bd),rfl,fun h=>h,SubC.refl (by rw [hd3];exact rawL_bd),rfl,fun h=>h,SubC.refl (by rw [hd4];exact rawL_bd),rfl,fun h=>h,(by rw [hd2];exact SubC.refl rawL_bd),rfl,trivial⟩
 obtain ⟨⟨i,im1,vss⟩,hi,hI⟩:=g
 simp only at hi hI
 show X (mkE Tryz.prog Tryz.f22 Q w (InR [] []) im1 (fun _ _=>False) (fun _=>True) [] B22) _ ⟨[(2,.val (.own 1 0)),(1,.val (.own 0 0)),(22,.val (.int .i64 (.nat n2))),(23,.val (.int .i64 (.nat i)))],[⟨true,[.int .u8 (.v k1),.int .u64 (.v i1),.int .i64 (.v s1),cV p1 2 n1 1,cV p2 5 n2 6,cV p3 3 n3 4,.int .u64 (.v l1),cV p4 4 n4 3],none⟩,⟨true,[.int .u8 (.lit 0),.int .u64 (.lit 0),.int .i64 (.lit 0),.raw (.slice none 0 0),.raw (.slice none 0 0),.raw (.slice none 0 0),.int .u64 (.lit 0),.raw (.slice none 0 0)],none⟩,⟨w1,d1,none⟩,⟨w3,d3,none⟩,⟨w4,d4,none⟩,⟨w2,rawL vss.flatten,none⟩]⟩
 obtain ⟨dl,hdl⟩:∃ d,d=rawL vss.flatten:=⟨_,rfl⟩
 rw [←hdl]
 refine X.go T22_ok 400 _ rfl Tryz.results22 ?_
 conv=>arg 2;cbv
 refine X.cond rfl (fun hlt=>?_) (fun hge=>?_)
 ·simp only [SB.T,SI.den] at hlt
  have hlt:i<n2:=by omega
  obtain ⟨x,hx⟩:∃ x,o1[i]?=some x:=⟨_,List.getElem?_eq_getElem (by omega)⟩
  obtain ⟨vsi,hvi,hri⟩:=hI.rep i x hx
  obtain ⟨pa,ca,hvsi,hsv⟩:=DoneP.open hri
  obtain ⟨na,hna⟩:∃ n,n=x.reply.vars.length:=⟨_,rfl⟩
  have hna50:na≤50:=by rw [hna];exact g5 i x hx
  obtain ⟨b2,y2,hp2,_⟩:=hm2 (by omega)
  obtain rfl:w2=true:=by rw [hw2];exact decide_eq_true (by omega)
  obtain ⟨vsv,hlv,hkv,hrv,hmv⟩:=hsv.rows (K:=1) fun x vs h=>(i64_vals h).1
  obtain ⟨z,hz⟩:∃ z,z=i*6:=⟨_,rfl⟩
  have hcell:dl[z+2+3]?=some (.raw (.slice pa na ca)):=by
   rw [hdl,rawL,List.getElem?_map,flatten_get (by decide) hI.six,hz,show (i*6+2+3) / 6=i by omega,show (i*6+2+3) % 6=5 by omega,hvi,hvsi,←hna]
   rfl
  have hdll:z+2+3<dl.length:=(List.getElem?_eq_some_iff.1 hcell).1
  obtain ⟨dv,hdv⟩:∃ d,d=rawL vsv.flatten:=⟨_,rfl⟩
  obtain ⟨wv,hwv⟩:∃ b,b=decide (na≠0):=⟨_,rfl⟩
  obtain ⟨dl',hdl'⟩:∃ d,d=setRow dl (z+2+3) [cV pa 6 na 1]:=⟨_,rfl⟩
  have him1:∀ k o v,Mo k o=some v→im1 k o=some v:=fun k o v h=>hI.him _ _ _ (him _ _ _ h)
  have hAv:0<na→∃ b y,pa=some ⟨b,y,none⟩∧∀ w':World,(∀ k o v,im1 k o=some v→w'.cell? ⟨k,o,none⟩=some v)→∀ (j:Nat) (v:Value),vsv.flatten[j]?=some v→w'.cell? ⟨b,y+j,none⟩=some v:=fun hp=>by
   obtain ⟨b,y,hb,h2⟩:=hmv (by omega)
   refine ⟨b,y,hb,fun w' hw j v hj=>?_⟩
   rw [flatten_get (by decide) hkv,Option.bind_eq_some_iff] at hj
   obtain ⟨vs,h3,h4⟩:=hj
   have:=hw _ _ _ (mU_in him1 _ _ _ (h2 _ _ h3 _ _ h4))
   rwa [Nat.add_assoc,Nat.mul_comm,Nat.div_add_mod] at this
  have eV:=fun {rg:List Rg} {f:Fr} {t:Nat}=>cloneI_cV (E:=(mkE Tryz.prog Tryz.f22 Q w (InR [] []) im1 (fun _ _=>False) (fun _=>True) [] B22).toEnv) (N0:=[]) (rg:=rg) (f:=f) (t:=t) (po:=pa) (co:=ca) rfl hdv hwv (by omega) (by rw [flatten_len hkv];omega) (ones_of hlv hrv fun x vs h=>(i64_vals h).2.1) hAv
  refine X.goX ([(32,.own 5 z),(35,.slv pa na ca),(37,.own 5 z)]) ([(36,⟨fun rg=>cV pa rg.length na 1,[],[⟨wv,dv,none⟩]⟩),(1014,⟨fun _=>.tup [],[(5,⟨true,dl',none⟩)],[]⟩)]) T22_ok 400 _ rfl Tryz.results22 (fun pr pe fin hpr hpe hfin=>?_)
  conv=>cbv
  refine ⟨hpr _ (vk_osl (sx:=cV p2 5 n2 6) rfl (.inr (.inr ⟨none,by rw [hp2];rfl⟩)) rfl (fun _=>rfl) Tryz.underlying37 Tryz.sizeOf89 (fun _=>hlt) hz (by simp)),hpr _ ((vk_load1 (gg:=⟨true,dl,none⟩) rfl Tryz.isAgg36 rfl hcell).conv fun N v h=>by simpa [SV.den,one?] using h),hpe _ _ _ _ _ (eV rfl (Nat.succ_pos _)),hpr _ (vk_osl (sx:=cV p2 5 n2 6) rfl (.inr (.inr ⟨none,by rw [hp2];rfl⟩)) rfl (fun _=>rfl) Tryz.underlying37 Tryz.sizeOf89 (fun _=>hlt) hz (by simp)),hpe _ _ _ _ _ ?_,hfin _ _ ?_⟩
  ·have hc1:=cV_cells pa 6 na 1
   refine EffOk.step T22_ok ?_
   rw [stepE_store (v:=cV pa 6 na 1) (g:=⟨true,dl,none⟩) (ti:=ti36) rfl rfl rfl rfl rfl (by rw [hc1.1];rfl) hdll (by rw [hc1.1];simp [hc1.2]),hc1.1,←hdl']
   rfl
  clear hpr hpe hfin
  refine X.back (fun N ac w' hN hf hS=>?_)
  obtain ⟨q6,hq6⟩:∃ p,N[6]?=some p:=⟨_,List.getElem?_eq_getElem (by rw [hS.len];show 6<7;omega)⟩
  have hpna:pa=none→na=0:=fun h=>by
   rcases Nat.eq_zero_or_pos na with h0 | h0
   ·exact h0
   ·obtain ⟨b,y,hb,_⟩:=hAv h0
    rw [h] at hb;cases hb
  have hv5:=cV_val (K:=1) hq6 hpna
  obtain ⟨v5,hv5d⟩:∃ v:Value,v=.slice (pa.map fun _=>⟨q6.b,q6.o,none⟩) na (capV pa (q6.x / 1)):=⟨_,rfl⟩
  rw [←hv5d] at hv5
  obtain ⟨m',hm'⟩:∃ m':Mem,m'=fun k o=>match im1 k o with | some v=>some v | none=>if wv=true∧k=q6.b∧q6.o≤o∧o<q6.o+dv.length then w'.cell? ⟨k,o,none⟩ else none:=⟨_,rfl⟩
  have hmm:∀ k o v,im1 k o=some v→m' k o=some v:=fun k o v h=>by rw [hm'];simp only [h]
  have hvs6:vsi.length=6:=by rw [hvsi];rfl
  have hfs:=flat_set (K:=6) (by decide) hI.six hvi (k:=5) (by decide) v5
  have hI':ClI w Mo im o1 m' (vss.set i (vsi.set 5 v5)):=by
   refine ⟨fun k o v h=>hmm _ _ _ (hI.him _ _ _ h),by rw [List.length_set];exact hI.len,fun v hv=>?_,fun j y hy=>?_⟩
   ·rcases List.mem_or_eq_of_mem_set hv with h1 | rfl
    ·exact hI.six v h1
    ·rw [List.length_set,hvs6]
   ·by_cases hj:i=j
    ·subst hj
     rw [hx] at hy;cases hy
     refine ⟨_,by rw [List.getElem?_set,if_pos rfl,if_pos (by rw [hI.len];omega)],?_⟩
     rw [hvsi,hv5d,hna]
     refine DoneP.rep ?_
     refine cloned (M:=mU w Mo m') (vss:=vsv) (n:=na) hS (by rw [←hwv,←hdv];rfl) hq6 Nat.one_pos hna (by rw [maxLen_le];omega) hlv hkv hpna (fun k y hy=>?_) (fun k u hb hc hk=>?_)
     ·obtain ⟨vs,h1,h2⟩:=hrv k y hy
      exact ⟨vs,h1,(i64_vals h2).2.2 _⟩
     ·have hMo0:Mo q6.b (q6.o+k)=none:=by
       cases hMk:Mo q6.b (q6.o+k) with
       | none=>rfl
       | some u'=>have:=World.block_lt_of_cell? _ _ (hMo _ _ _ hMk);simp at this;omega
      have h0:na≠0:=fun h=>by subst h;omega
      have hwt:wv=true:=by rw [hwv];exact decide_eq_true h0
      have him0:im1 q6.b (q6.o+k)=none:=by
       have hx6:=hS.ext 6 ⟨wv,dv,none⟩ q6 rfl hq6 hwt
       simp only [hdv,rawL_len,flatten_len hkv] at hx6
       exact hS.imd 6 ⟨wv,dv,none⟩ q6 rfl hq6 hwt k (by omega)
      unfold mU
      simp only [hMo0,hb,if_true,hm',him0]
      rw [if_pos ⟨hwt,trivial,by omega,by rw [hdv,rawL_len,flatten_len hkv];omega⟩]
      exact hc
    ·obtain ⟨vs,h1,h2⟩:=hI.rep j y hy
     exact ⟨vs,by rw [List.getElem?_set,if_neg hj];exact h1,h2.mono (mU_mono hmm)⟩
  refine hq ⟨(i+1,m',vss.set i (vsi.set 5 v5)),hlt,hI'⟩ ac w' (by simp only;omega) ?_
  show At (mkE Tryz.prog Tryz.f22 Q w (InR [] []) m' (fun _ _=>False) (fun _=>True) [] B22) ⟨[(2,.val (.own 1 0)),(1,.val (.own 0 0)),(22,.val (.int .i64 (.nat n2))),(23,.val (.int .i64 (.nat (i+1))))],[⟨true,[.int .u8 (.v k1),.int .u64 (.v i1),.int .i64 (.v s1),cV p1 2 n1 1,cV p2 5 n2 6,cV p3 3 n3 4,.int .u64 (.v l1),cV p4 4 n4 3],none⟩,⟨true,[.int .u8 (.lit 0),.int .u64 (.lit 0),.int .i64 (.lit 0),.raw (.slice none 0 0),.raw (.slice none 0 0),.raw (.slice none 0 0),.int .u64 (.lit 0),.raw (.slice none 0 0)],none⟩,⟨w1,d1,none⟩,⟨w3,d3,none⟩,⟨w4,d4,none⟩,⟨true,rawL (vss.set i (vsi.set 5 v5)).flatten,none⟩]⟩ ac w'
  have hR0:[SV.int .u8 (.v k1),.int .u64 (.v i1),.int .i64 (.v s1),cV p1 2 n1 1,cV p2 5 n2 6,cV p3 3 n3 4,.int .u64 (.v l1),cV p4 4 n4 3].all (bd 6)=true:=by cases p1<;>cases p2<;>cases p3<;>cases p4<;>rfl
  have keep:∀ {cs:List SV},cs.all (bd 6)=true→∀ (j:Nat) (c:SV),cs[j]?=some c→∃ c0,cs[j]?=some c0∧∀ v,c0.den N=some v→c.den (N.take 6)=some v:=fun h j c hj=>⟨c,hj,fun v hv=>den_take (List.all_eq_true.1 h c (List.mem_of_getElem? hj)) hv⟩
  have hset:dl'=dl.set (z+2+3) (cV pa 6 na 1):=by
   rw [hdl',setRow_eq _ _ _ (by omega),List.set_eq_take_append_cons_drop,if_pos hdll]
   simp
  have hnew:rawL (vss.set i (vsi.set 5 v5)).flatten=dl.set (z+2+3) (.raw v5):=by
   rw [hfs,rawL,List.map_set,←rawL,←hdl,hz]
  refine At.seal (k:=6) (q:=q6) (ow:=wv) (cs:=dv) (rg0:=[⟨true,[.int .u8 (.v k1),.int .u64 (.v i1),.int .i64 (.v s1),cV p1 2 n1 1,cV p2 5 n2 6,cV p3 3 n3 4,.int .u64 (.v l1),cV p4 4 n4 3],none⟩,⟨true,[.int .u8 (.lit 0),.int .u64 (.lit 0),.int .i64 (.lit 0),.raw (.slice none 0 0),.raw (.slice none 0 0),.raw (.slice none 0 0),.int .u64 (.lit 0),.raw (.slice none 0 0)],none⟩,⟨w1,d1,none⟩,⟨w3,d3,none⟩,⟨w4,d4,none⟩,⟨true,dl',none⟩]) hf hS rfl rfl hq6 rfl (by repeat first | exact trivial | refine ⟨⟨_,rfl,.inl ⟨rfl,rfl⟩⟩,?_⟩ | refine ⟨⟨_,rfl,.inr ⟨_,rfl,rfl⟩⟩,?_⟩ | refine ⟨⟨_,rfl,.inr ⟨_,rfl,by simp (disch:=omega) [SV.den,SI.den,wrapU,wrapD]<;>omega⟩⟩,?_⟩) (fun r y p hy hp=>?_) hm'
  have hr6:r<6:=(List.getElem?_eq_some_iff.1 hy).1
  have:r=0∨r=1∨r=2∨r=3∨r=4∨r=5:=by omega
  rcases this with rfl | rfl | rfl | rfl | rfl | rfl
  ·cases hy;exact ⟨_,rfl,rfl,rfl,rfl,keep hR0⟩
  ·cases hy;exact ⟨_,rfl,rfl,rfl,rfl,keep rfl⟩
  ·cases hy;exact ⟨_,rfl,rfl,rfl,rfl,keep (by rw [hd1];exact rawL_bd)⟩
  ·cases hy;exact ⟨_,rfl,rfl,rfl,rfl,keep (by rw [hd3];exact rawL_bd)⟩
  ·cases hy;exact ⟨_,rfl,rfl,rfl,rfl,keep (by rw [hd4];exact rawL_bd)⟩
  ·cases hy
   refine ⟨_,rfl,rfl,by show (rawL _).length=dl'.length;rw [hnew,hset,List.length_set,List.length_set],rfl,fun j c hj=>?_⟩
   have hj:(rawL (vss.set i (vsi.set 5 v5)).flatten)[j]?=some c:=hj
   show ∃ c0,dl'[j]?=some c0∧_
   rw [hnew,List.getElem?_set] at hj
   rw [hset,List.getElem?_set]
   by_cases hzj:z+2+3=j
   ·rw [if_pos hzj,if_pos (by omega)] at hj ⊢
    cases hj
    refine ⟨_,rfl,fun v hv=>?_⟩
    rw [hv5] at hv;cases hv
    rw [hv5d]
    simp [SV.den,one?]
   ·rw [if_neg hzj] at hj ⊢
    refine ⟨c,hj,fun v hv=>den_take ?_ hv⟩
    have hall:dl.all (bd 6)=true:=by rw [hdl];exact rawL_bd
    exact List.all_eq_true.1 hall c (List.mem_of_getElem? hj)
 ·simp only [SB.F,SI.den] at hge
  obtain rfl:i=n2:=by omega
  refine X.goX ([]) ([(1001,⟨fun _=>.tup [],[(1,⟨true,[.int .u8 (.v k1),.int .u64 (.v i1),.int .i64 (.v s1),cV p1 2 n1 1,cV p2 5 i 6,cV p3 3 n3 4,.int .u64 (.v l1),cV p4 4 n4 3],none⟩)],[]⟩)]) T22_ok 400 _ rfl Tryz.results22 (fun pr pe fin hpr hpe hfin=>?_)
  conv=>cbv
  refine ⟨hpe _ _ _ _ _ ?_,hfin _ _ ?_⟩
  ·refine EffOk.step T22_ok ?_
   rw [stepE_store (v:=.agg [.int .u8 (.v k1),.int .u64 (.v i1),.int .i64 (.v s1),cV p1 2 n1 1,cV p2 5 i 6,cV p3 3 n3 4,.int .u64 (.v l1),cV p4 4 n4 3]) (g:=⟨true,[.int .u8 (.lit 0),.int .u64 (.lit 0),.int .i64 (.lit 0),.raw (.slice none 0 0),.raw (.slice none 0 0),.raw (.slice none 0 0),.int .u64 (.lit 0),.raw (.slice none 0 0)],none⟩) (ti:=ti41) rfl rfl rfl rfl rfl rfl (by decide) (by cases p1<;>cases p2<;>cases p3<;>cases p4<;>rfl)]
   rfl
  refine X.done T22_ok rfl (fun N w' v hN hS hv=>?_)
  rw [hQ]
  obtain ⟨q2,hq2⟩:∃ p,N[2]?=some p:=⟨_,List.getElem?_eq_getElem (by rw [hS.len];show 2<6;omega)⟩
  obtain ⟨q3,hq3⟩:∃ p,N[3]?=some p:=⟨_,List.getElem?_eq_getElem (by rw [hS.len];show 3<6;omega)⟩
  obtain ⟨q4,hq4⟩:∃ p,N[4]?=some p:=⟨_,List.getElem?_eq_getElem (by rw [hS.len];show 4<6;omega)⟩
  obtain ⟨q5,hq5⟩:∃ p,N[5]?=some p:=⟨_,List.getElem?_eq_getElem (by rw [hS.len];show 5<6;omega)⟩
  have hnil:∀ {p:Option Addr} {n m:Nat} {vss:List (List Value)} {K:Nat},n=m→(0<m→∃ b y,p=some ⟨b,y,none⟩∧∀ (i:Nat) (vs:List Value),vss[i]?=some vs→∀ (j:Nat) (v:Value),vs[j]?=some v→Mo b (y+i*K+j)=some v)→p=none→n=0:=fun hnm h hp=>by
   rcases Nat.eq_zero_or_pos _ with h0 | h0
   ·exact h0
   ·obtain ⟨b,y,hb,_⟩:=h (by omega)
    rw [hp] at hb;cases hb
  have z1:=hnil hn1 hm1
  have z2:=hnil hn2 hm2
  have z3:=hnil hn3 hm3
  have z4:=hnil hn4 hm4
  have hv:(resV [.agg [.int .u8 (.v k1),.int .u64 (.v i1),.int .i64 (.v s1),cV p1 2 n1 1,cV p2 5 i 6,cV p3 3 n3 4,.int .u64 (.v l1),cV p4 4 n4 3]]).den N=some v:=hv
  simp only [resV,SV.den,SV.denL,SI.den,cV_val hq2 z1,cV_val hq5 z2,cV_val hq3 z3,cV_val hq4 z4,Option.some.injEq] at hv
  refine ⟨⟨_,congrArg Ending.returned hv.symm,fun M hM hnew=>?_,p1.map (fun _=>⟨q2.b,q2.o,none⟩),capV p1 (q2.x / 1),congrArg (fun n=>some (Value.slice (p1.map fun _=>⟨q2.b,q2.o,none⟩) n (capV p1 (q2.x / 1)))) hn1,fun h0=>?_⟩,hS.chg.none⟩
  rotate_left
  ·have h0:v1≠[]:=h0
   have hn0:n1≠0:=fun h=>h0 (List.eq_nil_of_length_eq_zero (by omega))
   have hp1:p1.map (fun _=>(⟨q2.b,q2.o,none⟩:Addr))=some ⟨q2.b,q2.o,none⟩:=by
    cases p1 with
    | none=>exact absurd (z1 rfl) hn0
    | some a=>rfl
   have hw1t:w1=true:=by rw [hw1];exact decide_eq_true hn0
   have hd1l:d1.length=n1*1:=by rw [hd1,rawL_len,flatten_len hk1,hl1,hn1]
   have hx2:=hS.ext 2 ⟨w1,d1,none⟩ q2 rfl hq2 hw1t
   simp only [hd1l] at hx2
   refine ⟨q2.b,q2.o,hp1,?_,fun j z hj=>?_⟩
   ·rcases hS.foot 2 ⟨w1,d1,none⟩ q2 rfl hq2 hw1t with h1 | h1
    ·exact h1
    ·exact absurd (h1 0 (by omega)) inR_nil
   ·have hjl:j<v1.length:=(List.getElem?_eq_some_iff.1 hj).1
    obtain ⟨vs,y1,y2⟩:=hr1 j z hj
    obtain rfl:vs=[.int .i64 z]:=i64D.open y2
    refine ⟨?_,(hS.room 2 ⟨w1,d1,none⟩ q2 rfl hq2 hw1t j (by omega)).2⟩
    have hcj:d1[j]?=some (.raw (.int .i64 z)):=by
     rw [hd1,rawL,List.getElem?_map,flatten_get (by decide) hk1,Nat.div_one,Nat.mod_one,y1]
     rfl
    obtain ⟨v,k1',k2⟩:=hS.cell 2 ⟨w1,d1,none⟩ q2 rfl hq2 j _ hcj
    have k1':some (Value.int .i64 z)=some v:=k1'
    rw [k2,←k1']
  have hmx:=maxLen_le
  have hsub:∀ k o v,mU w Mo im1 k o=some v→M k o=some v:=fun k o v h=>by
   unfold mU at h
   split at h
   ·rename_i u hu
    cases h
    exact hM _ _ _ hu
   ·split at h
    ·rename_i hk
     exact hnew _ _ _ hk (hS.imm _ _ _ h)
    ·cases h
  have f1:=cloned (M:=M) (vss:=vs1) (n:=n1) (r:=2) hS (by rw [←hw1,←hd1];rfl) hq2 Nat.one_pos hn1 (by omega) hl1 hk1 z1 (fun k y hy=>by obtain ⟨vs,h1,h2⟩:=hr1 k y hy;exact ⟨vs,h1,(i64_vals h2).2.2 _⟩) (fun j v hb hc _=>hnew _ _ _ hb hc)
  have f3:=cloned (M:=M) (vss:=vs3) (n:=n3) (r:=3) (K:=4) hS (by rw [←hw3,←hd3];rfl) hq3 (by decide) hn3 (by omega) hl3 hk3 z3 (fun k y hy=>by obtain ⟨vs,h1,h2⟩:=hr3 k y hy;exact ⟨vs,h1,(cell_vals h2).2.2 _⟩) (fun j v hb hc _=>hnew _ _ _ hb hc)
  have f4:=cloned (M:=M) (vss:=vs4) (n:=n4) (r:=4) (K:=3) hS (by rw [←hw4,←hd4];rfl) hq4 (by decide) hn4 (by omega) hl4 hk4 z4 (fun k y hy=>by obtain ⟨vs,h1,h2⟩:=hr4 k y hy;exact ⟨vs,h1,(mark_vals h2).2.2 _⟩) (fun j v hb hc _=>hnew _ _ _ hb hc)
  have f2:=cloned (M:=M) (vss:=vss) (n:=i) (r:=5) (K:=6) hS (by rw [←hw2,←hdl];rfl) hq5 (by decide) hn2 (by omega) hI.len hI.six z2 (fun k y hy=>by obtain ⟨vs,h1,h2⟩:=hI.rep k y hy;exact ⟨vs,h1,h2.mono hsub⟩) (fun j v hb hc _=>hnew _ _ _ hb hc)
  have:=RegP.rep (k:=k1) (i:=i1) (s:=s1) (l:=l1) f1 f2 f3 f4
  rw [←hn1,←hn2,←hn3,←hn4] at this
  exact this
theorem regClone_ok (a:RegP) (va:List Value) (Mo:Mem) (w:World) (hMo:∀ k o v,Mo k o=some v→w.cell? ⟨k,o,none⟩=some v) (ha:RepL Mo a.toD va) (hgr:¬a.great) :
  Calls Tryz.prog 22 #[.agg va.toArray] w (RegC a Mo w):=(regCloneN_ok a va Mo w hMo ha hgr).mono fun _ _ ⟨⟨vb,h1,h2,_⟩,h3⟩=>⟨⟨vb,h1,h2⟩,h3⟩
end Go.Proofs.YthpbefahaghbjaaGreat
namespace Go.Proofs.YthpbefahaghbjaaGreat
open Go Go.Eng Go.ChangeShapes Go.WideShapes
structure WM where
 (m:Nat) (P:Nat→Num)
def inN (p:Num) (k o:Nat):Prop:=k=p.b∧p.o≤o∧o<p.o+p.x
def WM.D (wm:WM) (ne:Nat) (k o:Nat):Prop:=k=wm.m∨∃ r,r<3+ne∧inN (wm.P r) k o
def gC (p:Num) (n:Nat):Value:=if n=0 then .slice none 0 0 else .slice (some ⟨p.b,p.o,none⟩) n (p.x / 13)
def kvW (key:Int) (b:BalP):Value:=.agg #[.int .u8 key,.int .u64 b.count,.int .u8 b.node,.int .u32 b.life]
def ptrN (p:Num):Value:=.pointer (some ⟨p.b,p.o,none⟩)
def Room (p:Num) (w:World):Prop:=p.b<w.heap.size∧∀ j,j<p.x→(w.cell? ⟨p.b,p.o+j,none⟩).isSome=true∧w.frozen? ⟨p.b,p.o+j,none⟩=false
def HasC (p:Num) (vs:List Value) (w:World):Prop:=∀ (j:Nat) (v:Value),vs[j]?=some v→w.cell? ⟨p.b,p.o+j,none⟩=some v
def RowsW (M:Mem) (p:Num) (l:List VerP) (w:World):Prop :=
 l.length*13≤p.x∧(l=[]→p.x=0)∧∃ vss:List (List Value),vss.length=l.length∧(∀ (i:Nat) (x:VerP),l[i]?=some x→∃ vs,vss[i]?=some vs∧RepL M x.toD vs)∧HasC p vss.flatten w
def EntAt (M:Mem) (p:Num) (e:EntP) (w:World):Prop :=
 13≤p.x∧∃ cv rv,RepL M e.c.toD cv∧RepL M e.reg.toD rv∧HasC p (cv++(rv++[.int .u64 e.nodes,.bool e.agreed])) w
abbrev placeT:TypeId:=64
structure WatchAt (wm:WM) (s:WP) (Mo:Mem) (w:World):Prop where
 room:∀ r,r<3+s.seen.length→Room (wm.P r) w
 sep:∀ r r',r<3+s.seen.length→r'<3+s.seen.length→r≠r'→∀ k o,inN (wm.P r) k o→¬inN (wm.P r') k o
 mp:∃ g,MapK Tryz.prog placeT wm.m g w∧(∀ i e,s.seen[i]?=some e→g (kvW e.key e.b)=some (ptrN (wm.P (3+i))))∧∀ key b,s.pos key b=none→g (kvW key b)=none
 hd:4≤(wm.P 0).x∧HasC (wm.P 0) [.map (some wm.m),gC (wm.P 1) s.l.length,gC (wm.P 2) s.all.length,.bool s.torn] w
 l:RowsW Mo (wm.P 1) s.l w
 a:RowsW Mo (wm.P 2) s.all w
 en:∀ i e,s.seen[i]?=some e→EntAt Mo (wm.P (3+i)) e w
 mo:∀ k o v,Mo k o=some v→w.cell? ⟨k,o,none⟩=some v
 md:∀ k o,wm.D s.seen.length k o→Mo k o=none
structure EntP.Ok (e:EntP):Prop where
 c0:0≤e.c.c
 co:e.c.old.length≤100∧∀ x∈e.c.old,0≤x∧x<256
 cn:e.c.new.length≤100∧∀ x∈e.c.new,0≤x∧x<256
 nodes:e.nodes<2 ^ 64
 reg:¬e.reg.great
structure WP.Ok (s:WP) (n:Nat):Prop where
 en:∀ e∈s.seen,e.Ok
 l:s.l.length≤n
 a:s.all.length≤n
 vl:∀ x∈s.l,¬x.reg.great
 va:∀ x∈s.all,¬x.reg.great
theorem room_of_chg {O:Nat→Nat→Prop} {w w':World} (h:Chg O w w') {k o:Nat} (hc:(w.cell? ⟨k,o,none⟩).isSome=true):(w'.cell? ⟨k,o,none⟩).isSome=true:=by
 cases hh:w.heap[k]? with
 | none=>simp [World.cell?,hh] at hc
 | some x =>
  cases x with
  | cells c e f =>
   obtain ⟨c',h1,h2,_⟩:=h.cells k c e f hh
   simp [World.cell?,hh] at hc
   simp [World.cell?,h1,h2]
   exact hc
  | _=>simp [World.cell?,hh] at hc
theorem Room.chg {p:Num} {w w':World} {O:Nat→Nat→Prop} (h:Room p w) (hc:Chg O w w'):Room p w':=⟨Nat.lt_of_lt_of_le h.1 hc.size,fun j hj=>by
 obtain ⟨h1,h2⟩:=h.2 j hj
 exact ⟨room_of_chg hc h1,by rw [frozen_of_chg hc _ h1];exact h2⟩⟩
theorem HasC.chg {p:Num} {vs:List Value} {w w':World} {O:Nat→Nat→Prop} (h:HasC p vs w) (hc:Chg O w w') (hl:vs.length≤p.x) (hO:∀ k o,inN p k o→¬O k o):HasC p vs w':=fun j v hj =>
 cell_of_chg hc (hO _ _ ⟨rfl,by omega,by have:=(List.getElem?_eq_some_iff.1 hj).1;omega⟩) (h j v hj)
theorem RowsW.chg {M:Mem} {p:Num} {l:List VerP} {w w':World} {O:Nat→Nat→Prop} (h:RowsW M p l w) (hc:Chg O w w') (hO:∀ k o,inN p k o→¬O k o):RowsW M p l w':=by
 obtain ⟨h1,h2,vss,h3,h4,h5⟩:=h
 refine ⟨h1,h2,vss,h3,h4,h5.chg hc ?_ hO⟩
 rw [flatten_len (K:=13) fun v hv=>?_,h3]
 ·exact h1
 ·obtain ⟨i,hi⟩:=List.mem_iff_getElem?.1 hv
  obtain ⟨x,hx⟩:∃ x,l[i]?=some x:=⟨_,List.getElem?_eq_getElem (by rw [←h3];exact (List.getElem?_eq_some_iff.1 hi).1)⟩
  obtain ⟨vs,k1,k2⟩:=h4 i x hx
  rw [hi] at k1;cases k1
  rw [k2.len];rfl
theorem EntAt.chg {M:Mem} {p:Num} {e:EntP} {w w':World} {O:Nat→Nat→Prop} (h:EntAt M p e w) (hc:Chg O w w') (hO:∀ k o,inN p k o→¬O k o):EntAt M p e w':=by
 obtain ⟨h1,cv,rv,h2,h3,h4⟩:=h
 refine ⟨h1,cv,rv,h2,h3,h4.chg hc ?_ hO⟩
 rw [List.length_append,List.length_append,h2.len,h3.len]
 exact h1
theorem RowsW.mono {M M':Mem} {p:Num} {l:List VerP} {w:World} (h:RowsW M p l w) (hM:∀ k o v,M k o=some v→M' k o=some v):RowsW M' p l w:=by
 obtain ⟨h1,h2,vss,h3,h4,h5⟩:=h
 exact ⟨h1,h2,vss,h3,fun i x hx=>by obtain ⟨vs,k1,k2⟩:=h4 i x hx;exact ⟨vs,k1,k2.mono hM⟩,h5⟩
theorem EntAt.mono {M M':Mem} {p:Num} {e:EntP} {w:World} (h:EntAt M p e w) (hM:∀ k o v,M k o=some v→M' k o=some v):EntAt M' p e w:=by
 obtain ⟨h1,cv,rv,h2,h3,h4⟩:=h
 exact ⟨h1,cv,rv,h2.mono hM,h3.mono hM,h4⟩
theorem WatchAt.there {wm:WM} {s:WP} {Mo:Mem} {w:World} (h:WatchAt wm s Mo w) {k o:Nat} (hd:wm.D s.seen.length k o):There w k o:=by
 rcases hd with rfl | ⟨r,hr,e1,e2,e3⟩
 ·obtain ⟨g,h1,_⟩:=h.mp
  exact .inr h1.ob
 ·have:=((h.room r hr).2 (o-(wm.P r).o) (by omega)).1
  rw [show (wm.P r).o+(o-(wm.P r).o)=o by omega,←e1] at this
  exact .inl this
theorem WatchAt.lt {wm:WM} {s:WP} {Mo:Mem} {w:World} (h:WatchAt wm s Mo w) {k o:Nat} (hd:wm.D s.seen.length k o):k<w.heap.size:=(h.there hd).lt
theorem WatchAt.ne {wm:WM} {s:WP} {Mo:Mem} {w:World} (h:WatchAt wm s Mo w) {r k o:Nat} (hr:r<3+s.seen.length) (hi:inN (wm.P r) k o):k≠wm.m:=fun e=>by
 obtain ⟨g,h1,_⟩:=h.mp
 obtain ⟨x,hx⟩:=Option.isSome_iff_exists.1 h1.ob
 have:=((h.room r hr).2 (o-(wm.P r).o) (by have:=hi.2;omega)).1
 rw [show (wm.P r).o+(o-(wm.P r).o)=o by have:=hi.2;omega,←hi.1,e,cell_obj hx] at this
 cases this
theorem WatchAt.chg {wm:WM} {s:WP} {Mo:Mem} {w w':World} {O:Nat→Nat→Prop} (h:WatchAt wm s Mo w) (hc:Chg O w w') (hO:∀ k o,wm.D s.seen.length k o→¬O k o) (hM:∀ k o v,Mo k o=some v→¬O k o):WatchAt wm s Mo w':=by
 have hP:∀ r,r<3+s.seen.length→∀ k o,inN (wm.P r) k o→¬O k o:=fun r hr k o hi=>hO k o (.inr ⟨r,hr,hi⟩)
 obtain ⟨g,g1,g2⟩:=h.mp
 refine ⟨fun r hr=>(h.room r hr).chg hc,h.sep,⟨g,g1.at (objAt_chg hc g1.ob fun o=>hO _ _ (.inl rfl)),g2⟩,⟨h.hd.1,h.hd.2.chg hc h.hd.1 (hP 0 (by omega))⟩,h.l.chg hc (hP 1 (by omega)),h.a.chg hc (hP 2 (by omega)),fun i e he=>(h.en i e he).chg hc (hP (3+i) (by have:=(List.getElem?_eq_some_iff.1 he).1;omega)),fun k o v hk=>cell_of_chg hc (hM k o v hk) (h.mo k o v hk),h.md⟩
def SawRet (wm:WM) (s s':WP) (Mo:Mem) (w:World) (e:Ending) (w':World):Prop :=
 e=.returned (.tuple #[])∧∃ wm' Mo',WatchAt wm' s' Mo' w'∧wm'.P 0=wm.P 0∧Chg (wm.D s.seen.length) w w'∧(∀ k o,wm'.D s'.seen.length k o→wm.D s.seen.length k o∨w.heap.size≤k)∧(∀ k o v,Mo k o=some v→Mo' k o=some v)∧∀ k o v,Mo' k o=some v→Mo k o=some v∨w.heap.size≤k
end Go.Proofs.YthpbefahaghbjaaGreat
