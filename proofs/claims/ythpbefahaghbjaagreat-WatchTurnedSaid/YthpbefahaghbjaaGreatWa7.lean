import Derived.Test.YthpbefahaghbjaaGreatWa2
import Derived.Test.YthpbefahaghbjaaGreatOb1
set_option maxHeartbeats 16000000
set_option maxRecDepth 100000
set_option cbv.maxSteps 100000000
namespace Go.Proofs.YthpbefahaghbjaaGreat
open Go Go.Eng
def cmp3 (a b:Int):Int:=if a<b then -1 else if b<a then 1 else 0
def or3 (a b c:Int):Int:=if a≠0 then a else if b≠0 then b else c
theorem nan_u64 (a:Int) (w:World):Calls Tryz.prog 79 #[.int .u64 a] w fun e w'=>e=.returned (.bool false)∧Chg (fun _ _=>False) w w':=by
 refine X.begin (rg:=[]) (N:=[]) (ss:=[.int .u64 (.v a)]) Tryz.func79 rfl B79_ok rfl rfl Sat.std0 ?_
 refine X.go T79_ok 400 _ rfl Tryz.results79 ?_
 conv=>arg 2;cbv
 refine X.done T79_ok rfl (fun N w' v hN hS hv=>⟨?_,hS.chg.none⟩)
 exact fin_bool hv (by simp [SB.den,SI.den])
theorem cmp_u64 (a b:Int) (w:World):Calls Tryz.prog 62 #[.int .u64 a,.int .u64 b] w fun e w'=>e=.returned (.int .i64 (cmp3 a b))∧Chg (fun _ _=>False) w w':=by
 refine X.begin (rg:=[]) (N:=[]) (ss:=[.int .u64 (.v a),.int .u64 (.v b)]) Tryz.func62 rfl B62_ok rfl rfl Sat.std0 ?_
 refine X.goX ([(8,.bool (.lit false)),(10,.bool (.lit false))]) ([]) T62_ok 400 _ rfl Tryz.results62 (fun pr pe fin hpr hpe hfin=>?_)
 conv=>cbv
 refine ⟨hpr _ (.of Tryz.call79 [.int .u64 a] (.bool false) (fun _=>rfl) (fun _=>rfl) fun _ w1 _=>nan_u64 a w1),hpr _ (.of Tryz.call79 [.int .u64 b] (.bool false) (fun _=>rfl) (fun _=>rfl) fun _ w1 _=>nan_u64 b w1),hfin _ _ ?_⟩
 clear hpr hpe hfin
 refine X.cond rfl (fun h1=>?_) (fun h1=>?_)
 ·simp only [SB.T,SI.den] at h1
  refine X.go T62_ok 400 _ rfl Tryz.results62 ?_
  conv=>arg 2;cbv
  refine X.done T62_ok rfl (fun N w' v hN hS hv=>⟨?_,hS.chg.none⟩)
  exact fin_int hv (by rw [cmp3,if_pos h1];rfl)
 simp only [SB.F,SI.den] at h1
 refine X.go T62_ok 400 _ rfl Tryz.results62 ?_
 conv=>arg 2;cbv
 refine X.cond rfl (fun h2=>?_) (fun h2=>?_)
 ·simp only [SB.T,SI.den] at h2
  refine X.go T62_ok 400 _ rfl Tryz.results62 ?_
  conv=>arg 2;cbv
  refine X.done T62_ok rfl (fun N w' v hN hS hv=>⟨?_,hS.chg.none⟩)
  exact fin_int hv (by rw [cmp3,if_neg (by omega),if_pos (by omega)];rfl)
 simp only [SB.F,SI.den] at h2
 refine X.go T62_ok 400 _ rfl Tryz.results62 ?_
 conv=>arg 2;cbv
 refine X.done T62_ok rfl (fun N w' v hN hS hv=>⟨?_,hS.chg.none⟩)
 exact fin_int hv (by rw [cmp3,if_neg (by omega),if_neg (by omega)];rfl)
theorem nan_u8 (a:Int) (w:World):Calls Tryz.prog 80 #[.int .u8 a] w fun e w'=>e=.returned (.bool false)∧Chg (fun _ _=>False) w w':=by
 refine X.begin (rg:=[]) (N:=[]) (ss:=[.int .u8 (.v a)]) Tryz.func80 rfl B80_ok rfl rfl Sat.std0 ?_
 refine X.go T80_ok 400 _ rfl Tryz.results80 ?_
 conv=>arg 2;cbv
 refine X.done T80_ok rfl (fun N w' v hN hS hv=>⟨?_,hS.chg.none⟩)
 exact fin_bool hv (by simp [SB.den,SI.den])
theorem cmp_u8 (a b:Int) (w:World):Calls Tryz.prog 63 #[.int .u8 a,.int .u8 b] w fun e w'=>e=.returned (.int .i64 (cmp3 a b))∧Chg (fun _ _=>False) w w':=by
 refine X.begin (rg:=[]) (N:=[]) (ss:=[.int .u8 (.v a),.int .u8 (.v b)]) Tryz.func63 rfl B63_ok rfl rfl Sat.std0 ?_
 refine X.goX ([(8,.bool (.lit false)),(10,.bool (.lit false))]) ([]) T63_ok 400 _ rfl Tryz.results63 (fun pr pe fin hpr hpe hfin=>?_)
 conv=>cbv
 refine ⟨hpr _ (.of Tryz.call80 [.int .u8 a] (.bool false) (fun _=>rfl) (fun _=>rfl) fun _ w1 _=>nan_u8 a w1),hpr _ (.of Tryz.call80 [.int .u8 b] (.bool false) (fun _=>rfl) (fun _=>rfl) fun _ w1 _=>nan_u8 b w1),hfin _ _ ?_⟩
 clear hpr hpe hfin
 refine X.cond rfl (fun h1=>?_) (fun h1=>?_)
 ·simp only [SB.T,SI.den] at h1
  refine X.go T63_ok 400 _ rfl Tryz.results63 ?_
  conv=>arg 2;cbv
  refine X.done T63_ok rfl (fun N w' v hN hS hv=>⟨?_,hS.chg.none⟩)
  exact fin_int hv (by rw [cmp3,if_pos h1];rfl)
 simp only [SB.F,SI.den] at h1
 refine X.go T63_ok 400 _ rfl Tryz.results63 ?_
 conv=>arg 2;cbv
 refine X.cond rfl (fun h2=>?_) (fun h2=>?_)
 ·simp only [SB.T,SI.den] at h2
  refine X.go T63_ok 400 _ rfl Tryz.results63 ?_
  conv=>arg 2;cbv
  refine X.done T63_ok rfl (fun N w' v hN hS hv=>⟨?_,hS.chg.none⟩)
  exact fin_int hv (by rw [cmp3,if_neg (by omega),if_pos (by omega)];rfl)
 simp only [SB.F,SI.den] at h2
 refine X.go T63_ok 400 _ rfl Tryz.results63 ?_
 conv=>arg 2;cbv
 refine X.done T63_ok rfl (fun N w' v hN hS hv=>⟨?_,hS.chg.none⟩)
 exact fin_int hv (by rw [cmp3,if_neg (by omega),if_neg (by omega)];rfl)
theorem nan_u32 (a:Int) (w:World):Calls Tryz.prog 81 #[.int .u32 a] w fun e w'=>e=.returned (.bool false)∧Chg (fun _ _=>False) w w':=by
 refine X.begin (rg:=[]) (N:=[]) (ss:=[.int .u32 (.v a)]) Tryz.func81 rfl B81_ok rfl rfl Sat.std0 ?_
 refine X.go T81_ok 400 _ rfl Tryz.results81 ?_
 conv=>arg 2;cbv
 refine X.done T81_ok rfl (fun N w' v hN hS hv=>⟨?_,hS.chg.none⟩)
 exact fin_bool hv (by simp [SB.den,SI.den])
theorem cmp_u32 (a b:Int) (w:World):Calls Tryz.prog 64 #[.int .u32 a,.int .u32 b] w fun e w'=>e=.returned (.int .i64 (cmp3 a b))∧Chg (fun _ _=>False) w w':=by
 refine X.begin (rg:=[]) (N:=[]) (ss:=[.int .u32 (.v a),.int .u32 (.v b)]) Tryz.func64 rfl B64_ok rfl rfl Sat.std0 ?_
 refine X.goX ([(8,.bool (.lit false)),(10,.bool (.lit false))]) ([]) T64_ok 400 _ rfl Tryz.results64 (fun pr pe fin hpr hpe hfin=>?_)
 conv=>cbv
 refine ⟨hpr _ (.of Tryz.call81 [.int .u32 a] (.bool false) (fun _=>rfl) (fun _=>rfl) fun _ w1 _=>nan_u32 a w1),hpr _ (.of Tryz.call81 [.int .u32 b] (.bool false) (fun _=>rfl) (fun _=>rfl) fun _ w1 _=>nan_u32 b w1),hfin _ _ ?_⟩
 clear hpr hpe hfin
 refine X.cond rfl (fun h1=>?_) (fun h1=>?_)
 ·simp only [SB.T,SI.den] at h1
  refine X.go T64_ok 400 _ rfl Tryz.results64 ?_
  conv=>arg 2;cbv
  refine X.done T64_ok rfl (fun N w' v hN hS hv=>⟨?_,hS.chg.none⟩)
  exact fin_int hv (by rw [cmp3,if_pos h1];rfl)
 simp only [SB.F,SI.den] at h1
 refine X.go T64_ok 400 _ rfl Tryz.results64 ?_
 conv=>arg 2;cbv
 refine X.cond rfl (fun h2=>?_) (fun h2=>?_)
 ·simp only [SB.T,SI.den] at h2
  refine X.go T64_ok 400 _ rfl Tryz.results64 ?_
  conv=>arg 2;cbv
  refine X.done T64_ok rfl (fun N w' v hN hS hv=>⟨?_,hS.chg.none⟩)
  exact fin_int hv (by rw [cmp3,if_neg (by omega),if_pos (by omega)];rfl)
 simp only [SB.F,SI.den] at h2
 refine X.go T64_ok 400 _ rfl Tryz.results64 ?_
 conv=>arg 2;cbv
 refine X.done T64_ok rfl (fun N w' v hN hS hv=>⟨?_,hS.chg.none⟩)
 exact fin_int hv (by rw [cmp3,if_neg (by omega),if_neg (by omega)];rfl)
theorem or3_ok (b y c:Nat) (z1 z2 z3:Int) (w:World) (h1:w.cell? ⟨b,y,none⟩=some (.int .i64 z1)) (h2:w.cell? ⟨b,y+1,none⟩=some (.int .i64 z2)) (h3:w.cell? ⟨b,y+2,none⟩=some (.int .i64 z3)):Calls Tryz.prog 61 #[.slice (some ⟨b,y,none⟩) 3 c] w fun e w'=>e=.returned (.int .i64 (or3 z1 z2 z3))∧Chg (fun _ _=>False) w w':=by
 refine X.begin (rg:=[]) (N:=[]) (ss:=[.slv (some ⟨b,y,none⟩) 3 c]) Tryz.func61 rfl B61_ok rfl rfl Sat.std0 ?_
 refine X.addIm [(0,.val (.osl 0 0 3 1 (some c)))] b y (cs:=[.int .i64 (.v z1),.int .i64 (.v z2),.int .i64 (.v z3)]) (by simp) (fun j x hj=>?_) (fun N hN=>?_) ?_
 ·match j,hj with
  | 0,hj=>cases hj;exact ⟨_,fun _=>rfl,his h1⟩
  | 1,hj=>cases hj;exact ⟨_,fun _=>rfl,his h2⟩
  | 2,hj=>cases hj;exact ⟨_,fun _=>rfl,his h3⟩
  | j+3,hj=>simp at hj
 ·obtain rfl:N=[]:=List.eq_nil_of_length_eq_zero hN
  refine ⟨rfl,fun x h=>?_,trivial⟩
  simpa [SV.den,Num.cap] using h
 refine X.goC FALL_ok true T61_ok 4000 _ rfl Tryz.results61 ?_
 conv=>arg 2;cbv
 refine X.cond rfl (fun h1=>?_) (fun h1=>?_)
 ·simp only [SB.T,SB.F,SI.den] at h1
  have h1:¬z1=0:=h1
  refine X.goC FALL_ok true T61_ok 4000 _ rfl Tryz.results61 ?_
  conv=>arg 2;cbv
  refine X.done T61_ok rfl (fun N w' v hN hS hv=>⟨fin_int hv ?_,hS.chg.none⟩)
  simp [SI.den,or3,h1]
 simp only [SB.T,SB.F,SI.den] at h1
 have h1:z1=0:=by omega
 refine X.goC FALL_ok true T61_ok 4000 _ rfl Tryz.results61 ?_
 conv=>arg 2;cbv
 refine X.cond rfl (fun h2=>?_) (fun h2=>?_)
 ·simp only [SB.T,SB.F,SI.den] at h2
  have h2:¬z2=0:=h2
  refine X.goC FALL_ok true T61_ok 4000 _ rfl Tryz.results61 ?_
  conv=>arg 2;cbv
  refine X.done T61_ok rfl (fun N w' v hN hS hv=>⟨fin_int hv ?_,hS.chg.none⟩)
  simp [SI.den,or3,h1,h2]
 simp only [SB.T,SB.F,SI.den] at h2
 have h2:z2=0:=by omega
 refine X.goC FALL_ok true T61_ok 4000 _ rfl Tryz.results61 ?_
 conv=>arg 2;cbv
 refine X.cond rfl (fun h3=>?_) (fun h3=>?_)
 ·simp only [SB.T,SB.F,SI.den] at h3
  have h3:¬z3=0:=h3
  refine X.goC FALL_ok true T61_ok 4000 _ rfl Tryz.results61 ?_
  conv=>arg 2;cbv
  refine X.done T61_ok rfl (fun N w' v hN hS hv=>⟨fin_int hv ?_,hS.chg.none⟩)
  simp [SI.den,or3,h1,h2,h3]
 simp only [SB.T,SB.F,SI.den] at h3
 have h3:z3=0:=by omega
 refine X.goC FALL_ok true T61_ok 4000 _ rfl Tryz.results61 ?_
 conv=>arg 2;cbv
 refine X.done T61_ok rfl (fun N w' v hN hS hv=>⟨fin_int hv ?_,hS.chg.none⟩)
 simp [SI.den,or3,h1,h2,h3]
theorem bcompare_ok (a1 a2 a3 b1 b2 b3:Int) (w:World):Calls Tryz.prog 32 #[.agg #[.int .u64 a1,.int .u8 a2,.int .u32 a3],.agg #[.int .u64 b1,.int .u8 b2,.int .u32 b3]] w fun e w'=>e=.returned (.int .i64 (or3 (cmp3 a1 b1) (cmp3 a2 b2) (cmp3 a3 b3)))∧Chg (fun _ _=>False) w w':=by
 obtain ⟨z1,h1⟩:∃ z,z=cmp3 a1 b1:=⟨_,rfl⟩
 obtain ⟨z2,h2⟩:∃ z,z=cmp3 a2 b2:=⟨_,rfl⟩
 obtain ⟨z3,h3⟩:∃ z,z=cmp3 a3 b3:=⟨_,rfl⟩
 obtain ⟨q,hq⟩:∃ z,z=or3 z1 z2 z3:=⟨_,rfl⟩
 rw [←h1,←h2,←h3,←hq]
 refine X.begin (rg:=[]) (N:=[]) (ss:=[.agg [.int .u64 (.v a1),.int .u8 (.v a2),.int .u32 (.v a3)],.agg [.int .u64 (.v b1),.int .u8 (.v b2),.int .u32 (.v b3)]]) Tryz.func32 rfl B32_ok rfl rfl Sat.std0 ?_
 refine X.goX ([(9,.int .i64 (.v z1)),(14,.int .i64 (.v z2)),(19,.int .i64 (.v z3)),(21,.int .i64 (.v q))]) ([]) T32_ok 400 _ rfl Tryz.results32 (fun pr pe fin hpr hpe hfin=>?_)
 conv=>cbv
 refine ⟨hpr _ (.of Tryz.call62 [.int .u64 a1,.int .u64 b1] (.int .i64 z1) (fun _=>rfl) (fun _=>rfl) fun _ w1 _=>h1 ▸ cmp_u64 a1 b1 w1),hpr _ (.of Tryz.call63 [.int .u8 a2,.int .u8 b2] (.int .i64 z2) (fun _=>rfl) (fun _=>rfl) fun _ w1 _=>h2 ▸ cmp_u8 a2 b2 w1),hpr _ (.of Tryz.call64 [.int .u32 a3,.int .u32 b3] (.int .i64 z3) (fun _=>rfl) (fun _=>rfl) fun _ w1 _=>h3 ▸ cmp_u32 a3 b3 w1),rfl,hpr _ fun _=>⟨Tryz.call61,fun N w1 args hN hS ha=>?_⟩,hfin _ _ ?_⟩
 ·obtain ⟨p,hp⟩:∃ p,N[2]?=some p:=⟨_,List.getElem?_eq_getElem (by rw [hS.len];show 2<3;omega)⟩
  have ha:args=[.slice (some ⟨p.b,p.o,none⟩) 3 3]:=by
   simp only [SV.denL,SV.den,hp,Num.cap,Nat.add_zero,Option.some.injEq] at ha
   exact ha.symm
  rw [ha]
  have hc:∀ (j:Nat) (z:Int),[SV.int .i64 (.v z1),.int .i64 (.v z2),.int .i64 (.v z3)][j]?=some (.int .i64 (.v z))→w1.cell? ⟨p.b,p.o+j,none⟩=some (.int .i64 z):=fun j z hj=>by
   obtain ⟨v,k1,k2⟩:=hS.cell 2 _ _ rfl hp j _ hj
   simp only [SV.den,SI.den,Option.some.injEq] at k1
   rw [k2,←k1]
  exact (or3_ok p.b p.o 3 z1 z2 z3 w1 (hc 0 z1 rfl) (hc 1 z2 rfl) (hc 2 z3 rfl)).mono fun e w' ⟨he,hch⟩=>⟨_,he,by rw [hq];rfl,hch⟩
 refine X.done T32_ok rfl (fun N w' v hN hS hv=>⟨fin_int hv rfl,hS.chg.none⟩)
structure MsgA where
 (kind fr to key C b1 b2 b3:Int) (ok:Bool) (a1 a2 a3:Int) (reg:RegP) (x1 x2 x3 mx:Int)
def MsgA.vals (m:MsgA) (va:List Value):List Value:=[.int .u8 m.kind,.int .u8 m.fr,.int .u8 m.to,.int .u8 m.key,.int .u64 m.C,.int .u64 m.b1,.int .u8 m.b2,.int .u32 m.b3,.bool m.ok,.int .u64 m.a1,.int .u8 m.a2,.int .u32 m.a3]++(va++[.int .u64 m.x1,.int .u8 m.x2,.int .u32 m.x3,.int .u64 m.mx])
end Go.Proofs.YthpbefahaghbjaaGreat
namespace Go.Eng
open Go
end Go.Eng
namespace Go.Proofs.YthpbefahaghbjaaGreat
open Go Go.Eng Go.Sort
structure RegS where
 (k i s l:Int) (q1 q2 q3 q4:Option Addr) (m1 m2 m3 m4 e1 e2 e3 e4:Nat)
def RegS.vals (r:RegS):List Value:=[.int .u8 r.k,.int .u64 r.i,.int .i64 r.s,.slice r.q1 r.m1 r.e1,.slice r.q2 r.m2 r.e2,.slice r.q3 r.m3 r.e3,.int .u64 r.l,.slice r.q4 r.m4 r.e4]
def RegS.svs (r:RegS):List SV:=[.int .u8 (.v r.k),.int .u64 (.v r.i),.int .i64 (.v r.s),.slv r.q1 r.m1 r.e1,.slv r.q2 r.m2 r.e2,.slv r.q3 r.m3 r.e3,.int .u64 (.v r.l),.slv r.q4 r.m4 r.e4]
structure RndG where
 (key:Int) (C:Nat) (p1:Option Addr) (n1 c1:Nat) (p2:Option Addr) (n2 c2:Nat) (b1 b2 b3:Int) (al:Bool) (ph:Int) (got:Nat) (a1 a2 a3:Int) (reg:RegS) (x1 x2 x3 mx:Int)
def RndG.vals (r:RndG):List Value:=[.int .u8 r.key,.int .u64 r.C,.slice r.p1 r.n1 r.c1,.slice r.p2 r.n2 r.c2,.int .u64 r.b1,.int .u8 r.b2,.int .u32 r.b3,.bool r.al,.int .u8 r.ph,.int .u64 r.got,.int .u64 r.a1,.int .u8 r.a2,.int .u32 r.a3]++(r.reg.vals++[.int .u64 r.x1,.int .u8 r.x2,.int .u32 r.x3,.int .u64 r.mx])
end Go.Proofs.YthpbefahaghbjaaGreat
namespace Go.Eng
open Go
section
variable {E:Ctx} {T:Tab} {all:Array Oper} {z:Nat} {zs:List Nat} {k:List It} {s:St} {o:Oper} {f:Fr} {rg0:List Rg} {ks:List Nat}
end
end Go.Eng
namespace Go.Proofs.YthpbefahaghbjaaGreat
open Go Go.Eng Go.Sort
theorem RegS.of {a:RegP} {M:Mem} {vb:List Value} (h:RepL M a.toD vb):∃ g:RegS,vb=g.vals:=by
 obtain ⟨p1,c1,p2,c2,p3,c3,p4,c4,rfl,_⟩:=RegP.open h
 exact ⟨⟨a.kind,a.inc,a.state,a.last,p1,p2,p3,p4,_,_,_,_,c1,c2,c3,c4⟩,rfl⟩
def RndG.put (r:RndG) (ph:Int) (got:Nat) (a1 a2 a3:Int) (g:RegS) (mx:Int):RndG:=⟨r.key,r.C,r.p1,r.n1,r.c1,r.p2,r.n2,r.c2,r.b1,r.b2,r.b3,r.al,ph,got,a1,a2,a3,g,r.x1,r.x2,r.x3,mx⟩
end Go.Proofs.YthpbefahaghbjaaGreat
namespace Go.Proofs.YthpbefahaghbjaaGreat
open Go Go.Eng
structure TelC where
 (node cc:Int) (op:Option Addr) (on oc:Nat) (np:Option Addr) (nn nc:Nat) (key:Int) (has:Bool) (p1 p2 p3 a1 a2 a3:Int) (g:RegS) (at':Int)
def TelC.cV (t:TelC):List Value:=[.int .u64 t.cc,.slice t.op t.on t.oc,.slice t.np t.nn t.nc]
def TelC.sV (t:TelC):List Value:=.bool t.has::.int .u64 t.p1::.int .u8 t.p2::.int .u32 t.p3::.int .u64 t.a1::.int .u8 t.a2::.int .u32 t.a3::t.g.vals
def TelC.cS (t:TelC):List SV:=[.int .u64 (.v t.cc),.slv t.op t.on t.oc,.slv t.np t.nn t.nc]
def TelC.sS (t:TelC):List SV:=.bool (.v t.has)::.int .u64 (.v t.p1)::.int .u8 (.v t.p2)::.int .u32 (.v t.p3)::.int .u64 (.v t.a1)::.int .u8 (.v t.a2)::.int .u32 (.v t.a3)::t.g.svs
def TelC.vals (t:TelC):List Value:=.int .u8 t.node::(t.cV++(.int .u8 t.key::(t.sV++[.int .i64 t.at'])))
def TelC.svs (t:TelC):List SV:=.int .u8 (.v t.node)::(t.cS++(.int .u8 (.v t.key)::(t.sS++[.int .i64 (.v t.at')])))
structure TelC.Of (M:Mem) (t:TelC) (x:TelP):Prop where
 e:t.node=x.node∧t.cc=x.c.c∧t.on=x.c.old.length∧t.nn=x.c.new.length∧t.key=x.key∧t.has=x.s.has∧x.s.acc=⟨t.a1,t.a2,t.a3⟩∧t.at'=x.at'
 o:SlR M t.op t.oc 1 (x.c.old.map u8D)
 n:SlR M t.np t.nc 1 (x.c.new.map u8D)
 g:RepL M x.s.reg.toD t.g.vals
theorem TelP.cells {x:TelP} {M:Mem} {vs:List Value} (h:RepL M x.toD vs):∃ t:TelC,vs=t.vals∧t.Of M x:=by
 obtain ⟨cv,sv,rfl,hc,hs⟩:=TelP.open h
 obtain ⟨op,oc,np,nc,rfl,ho,hn⟩:=ConfP.open hc
 obtain ⟨rv,rfl,hr⟩:=SlotD.open hs
 obtain ⟨g,rfl⟩:=RegS.of hr
 exact ⟨⟨x.node,x.c.c,op,_,oc,np,_,nc,x.key,x.s.has,x.s.promise.count,x.s.promise.node,x.s.promise.life,x.s.acc.count,x.s.acc.node,x.s.acc.life,g,x.at'⟩,rfl,⟨rfl,rfl,rfl,rfl,rfl,rfl,rfl,rfl⟩,ho,hn,hr⟩
def TelP.big (x:TelP):Prop:=20<x.c.old.length∨20<x.c.new.length∨x.s.reg.great
def great24 (l:List TelP):Prop:=60<l.length∨∃ (i:Nat) (x:TelP),l[i]?=some x∧x.big
theorem great24_ok (l:List TelP) (p:Option Addr) (c:Nat) (w:World) (hs:SlR (wm w) p c 21 (l.map TelP.toD)) :
  Calls Tryz.prog 6 #[.slice p l.length c] w fun e w'=>e=.returned (.bool (B (great24 l)))∧Chg (fun _ _=>False) w w':=by
 obtain ⟨q,hq⟩:∃ q,q=B (great24 l):=⟨_,rfl⟩
 obtain ⟨n,hn⟩:∃ n,n=l.length:=⟨_,rfl⟩
 have hm:=maxLen_le
 have hl:n≤maxLen:=by rw [hn];exact hs.len
 rw [←hq,←hn]
 refine X.begin (rg:=[]) (N:=[]) (ss:=[.slv p n c]) Tryz.func6 rfl B6_ok rfl rfl Sat.std0 ?_
 obtain ⟨im,hime⟩:∃ im,im=elsewhere [] [] w:=⟨_,rfl⟩
 show X (mkE Tryz.prog Tryz.f6 _ w (InR [] []) (elsewhere [] [] w) (fun _ _=>False) (fun _=>True) [] B6) _ _
 rw [←hime]
 refine X.go T6_ok 400 _ rfl Tryz.results6 ?_
 conv=>arg 2;cbv
 refine X.cond rfl (fun hc=>?_) (fun hc=>?_)
 ·refine X.go T6_ok 400 _ rfl Tryz.results6 ?_
  conv=>arg 2;cbv
  refine X.done T6_ok rfl (fun N w' v hN hS hv=>⟨fin_bool hv ?_,hS.chg.mono fun k o _ h=>inR_nil h⟩)
  simp only [SB.T,SB.F,SI.den] at hc
  rw [hq]
  exact (B_pos (.inl (by omega))).symm
 simp only [SB.T,SB.F,SI.den] at hc
 refine X.go T6_ok 400 _ rfl Tryz.results6 ?_
 conv=>arg 2;cbv
 refine X.loop1 (fun i:{i:Nat // i≤n∧∀ (j:Nat) (x:TelP),j<i→l[j]?=some x→¬x.big}=>⟨[(0,.val (.slv p n c)),(8,.val (.int .i64 (.nat n))),(9,.val (.int .i64 (.nat i.1)))],[]⟩) (fun i=>n-i.1) (fun N a w' hN hf hS=>⟨⟨0,Nat.zero_le _,fun j x hj=>by omega⟩,?_⟩) (fun i q' hq'=>?_)
 ·exact At.again hf hS (by repeat first | exact trivial | refine ⟨⟨_,rfl,.inl ⟨rfl,rfl⟩⟩,?_⟩ | refine ⟨⟨_,rfl,.inr ⟨_,rfl,rfl⟩⟩,?_⟩ | refine ⟨⟨_,rfl,.inr ⟨_,rfl,by simp (disch:=omega) [SV.den,SI.den,wrapU,wrapD]<;>omega⟩⟩,?_⟩) trivial
 obtain ⟨i,hi,hno⟩:=i
 refine X.go T6_ok 400 _ rfl Tryz.results6 ?_
 conv=>arg 2;cbv
 refine X.cond rfl (fun hlt=>?_) (fun hge=>?_)
 ·simp only [SB.T,SI.den] at hlt
  have hlt:i<n:=by omega
  obtain ⟨x1,hx1⟩:∃ x,l[i]?=some x:=⟨_,List.getElem?_eq_getElem (by omega)⟩
  obtain ⟨b1,y1,w1,hp1,hr1,hm1⟩:=hs.his hx1
  rw [←hime] at hm1
  obtain ⟨t,rfl,ht⟩:=TelP.cells hr1
  obtain ⟨h,hh⟩:∃ h,h=B x1.s.reg.great:=⟨_,rfl⟩
  have hc:=fun (w1:World) hi1=>great06_ok x1.s.reg _ w1 (ht.g.later hime hi1)
  rw [←hh] at hc
  obtain ⟨e1,e2,e3,e4,e5,e6,e7,e8⟩:=ht.e
  clear ht
  obtain ⟨nd,cc,op,on,oc,np,nn,nc,ky,hs',s1,s2,s3,a1,a2,a3,⟨gk,gi,gs,gl,q1,q2,q3,q4,m1,m2,m3,m4,f1,f2,f3,f4⟩,ta⟩:=t
  refine X.see b1 (y1+i*21) (TelC.svs ⟨nd,cc,op,on,oc,np,nn,nc,ky,hs',s1,s2,s3,a1,a2,a3,⟨gk,gi,gs,gl,q1,q2,q3,q4,m1,m2,m3,m4,f1,f2,f3,f4⟩,ta⟩) (see_of hm1 rfl) (Nat.zero_lt_succ _) (fun N1 hN1 hNl1=>?_)
  have hg1:(N1++[(⟨b1,y1+i*21,0⟩:Num)])[0]?=some ⟨b1,y1+i*21,0⟩:=num_last hNl1
  have vo:∀ {E:Env} {N0:Nums} {rg:List Rg} {f:Fr} {g:GK} {x ix:Operand} {kd:IntKind} {s:SI},evK f g x=some (.slv p n c)→evK f g ix=some (.int kd s)→E.P=Tryz.prog→N0=(N1++[(⟨b1,y1+i*21,0⟩:Num)])→s=.nat i→ValOk E N0 rg f g (.indexAddr 22 x ix) (.own 0 0):=fun k1 k2 k3 k4 k5=>by subst k4 k5;exact ValOk.row k1 k2 (fun _=>rfl) (by rw [k3];exact Tryz.underlying22) (by rw [k3];exact Tryz.sizeOf45) hlt hp1 hg1 rfl rfl
  refine X.goP ([(14,.own 0 0),(23,.own 0 0),(33,.own 0 0),(37,.bool (.v h))]) T6_ok 400 _ rfl Tryz.results6 (fun pr fin hpr hfin=>?_)
  conv=>cbv
  refine ⟨hpr _ (.of Tryz.call18 [.agg _] (.bool h) (fun _=>rfl) (fun _=>rfl) fun _ w1 hi1=>hc w1 hi1),hpr _ (vo rfl rfl rfl rfl rfl),hpr _ (vo rfl rfl rfl rfl rfl),hpr _ (vo rfl rfl rfl rfl rfl),hfin _ _ ?_⟩
  refine X.cond rfl (fun hbad=>?_) (fun hok=>?_)
  ·simp only [SB.T,SB.F,SI.den] at hbad
   refine X.go T6_ok 400 _ rfl Tryz.results6 ?_
   conv=>arg 2;cbv
   refine X.done T6_ok rfl (fun N w' v hN hS hv=>⟨fin_bool hv ?_,hS.chg.mono fun k o _ h=>inR_nil h⟩)
   rw [hq]
   refine (B_pos (.inr ⟨i,x1,hx1,?_⟩)).symm
   rw [hh,B_iff] at hbad
   simp only at e3 e4
   unfold TelP.big
   grind
  ·simp only [SB.T,SB.F,SI.den] at hok
   refine X.go T6_ok 400 _ rfl Tryz.results6 ?_
   conv=>arg 2;cbv
   refine X.back (fun N a w' hN hf hS=>hq' ⟨i+1,by omega,fun j x' hj hj'=>?_⟩ a w' (by simp only;omega) ?_)
   ·by_cases e:j=i
    ·subst e
     rw [hx1] at hj'
     obtain rfl:=Option.some.inj hj'
     simp only at e3 e4
     rintro (e | e | e)
     ·omega
     ·omega
     ·rw [B_pos e] at hh
      rw [hh] at hok
      simp at hok
    ·exact hno j x' (by omega) hj'
   exact At.again hf hS (by repeat first | exact trivial | refine ⟨⟨_,rfl,.inl ⟨rfl,rfl⟩⟩,?_⟩ | refine ⟨⟨_,rfl,.inr ⟨_,rfl,rfl⟩⟩,?_⟩ | refine ⟨⟨_,rfl,.inr ⟨_,rfl,by simp (disch:=omega) [SV.den,SI.den,wrapU,wrapD]<;>omega⟩⟩,?_⟩) trivial
 simp only [SB.F,SI.den] at hge
 obtain rfl:i=n:=by omega
 refine X.go T6_ok 400 _ rfl Tryz.results6 ?_
 conv=>arg 2;cbv
 refine X.done T6_ok rfl (fun N w' v hN hS hv=>⟨fin_bool hv ?_,hS.chg.mono fun k o _ h=>inR_nil h⟩)
 rw [hq]
 refine (B_neg fun h=>?_).symm
 rcases h with h | ⟨j,d,hj,hd⟩
 ·omega
 ·exact hno j d (by have:=(List.getElem?_eq_some_iff.1 hj).1;omega) hj hd
def sawA (b y:Nat) (t:TelC):Array Value:=#[.pointer (some ⟨b,y,none⟩),.int .u8 t.node,.agg t.cV.toArray,.int .u8 t.key,.agg t.sV.toArray,.int .i64 t.at']
def sawS (p:SV) (t:TelC):List SV:=[p,.int .u8 (.v t.node),.agg t.cS,.int .u8 (.v t.key),.agg t.sS,.int .i64 (.v t.at')]
structure TelP.Ok (x:TelP):Prop where
 c0:0≤x.c.c
 co:x.c.old.length≤100∧∀ z∈x.c.old,0≤z∧z<256
 cn:x.c.new.length≤100∧∀ z∈x.c.new,0≤z∧z<256
 reg:¬x.s.reg.great
 nd:0≤x.node
 kw:(Lit.int .u8 x.key).wf=true
 a1:(Lit.int .u64 x.s.acc.count).wf=true
 a2:(Lit.int .u8 x.s.acc.node).wf=true
 a3:(Lit.int .u32 x.s.acc.life).wf=true
theorem SlR.inB {M:Mem} {p:Option Addr} {c:Nat} {l:List Int} {w:World} (h:SlR M p c 1 (l.map u8D)) (hM:∀ k o v,M k o=some v→w.cell? ⟨k,o,none⟩=some v):InB p l.length l.toArray w:=by
 refine ⟨by simp,fun h0=>?_⟩
 rcases h.2 with h1 | ⟨b,y,hp,hr⟩
 ·have:l=[]:=by simpa using h1
  subst this;simp at h0
 ·refine ⟨b,y,hp,fun j hj=>?_⟩
  have hj:j<l.length:=by simpa using hj
  obtain ⟨vs,k1,k2⟩:=hr j (u8D l[j]) (by simp [hj])
  obtain rfl:=u8D.open k1
  have:=hM _ _ _ (k2 0 _ rfl)
  rw [Nat.mul_one,Nat.add_zero] at this
  simpa [hj] using this
theorem saw_none (b y:Nat) (t:TelC) (x:TelP) (w:World) (ht:t.Of (wm w) x) (hx:x.Ok) (hc:¬x.cnt) :
  Calls Tryz.prog 9 (sawA b y t) w fun e w'=>e=.returned (.tuple #[])∧Chg (fun _ _=>False) w w':=by
 obtain ⟨e1,e2,e3,e4,e5,e6,e7,e8⟩:=ht.e
 have ho:=SlR.inB (w:=w) ht.o fun _ _ _ h=>h
 have hn:=SlR.inB (w:=w) ht.n fun _ _ _ h=>h
 have hmay:=fun w1 (him:∀ k o v,elsewhere [] [] w k o=some v→w1.cell? ⟨k,o,none⟩=some v)=>cmay_ok x.c.c.toNat t.op t.np x.c.old.length x.c.new.length t.oc t.nc x.c.old.toArray x.c.new.toArray w1 (by have:=hx.co.1;omega) (by have:=hx.cn.1;omega) (ho.im him) (hn.im him) (by simpa using hx.co.2) (by simpa using hx.cn.2)
 have hcc:((x.c.c.toNat:Nat):Int)=t.cc:=by rw [e2];exact Int.toNat_of_nonneg hx.c0
 rw [hcc,←e3,←e4] at hmay
 obtain ⟨mb,hmb⟩:∃ b,b=B (mayC x.c.c.toNat x.c.old.toArray x.c.new.toArray):=⟨_,rfl⟩
 rw [←hmb] at hmay
 have hc':¬(t.node<64∧t.key<16∧t.has=true∧¬(t.a1=0∧t.a2=0∧t.a3=0)∧mb=true):=fun ⟨k1,k2,k3,k4,k5⟩=>hc ⟨by omega,by omega,by rw [←e6];exact k3,by rw [e7];simpa using k4,by rw [hmb,B_iff] at k5;exact k5⟩
 clear ht hx hc ho hn hmb hcc e1 e2 e3 e4 e5 e6 e7 e8
 obtain ⟨nd,cc,op,on,oc,np,nn,nc,ky,hs,s1,s2,s3,a1,a2,a3,⟨gk,gi,gs,gl,q1,q2,q3,q4,m1,m2,m3,m4,f1,f2,f3,f4⟩,ta⟩:=t
 refine X.begin (rg:=[]) (N:=[]) (ss:=sawS (.ext b y 0) ⟨nd,cc,op,on,oc,np,nn,nc,ky,hs,s1,s2,s3,a1,a2,a3,⟨gk,gi,gs,gl,q1,q2,q3,q4,m1,m2,m3,m4,f1,f2,f3,f4⟩,ta⟩) Tryz.func9 rfl B9_ok rfl rfl Sat.std0 ?_
 obtain ⟨nb,hnb⟩:∃ b,b=decide (a1=0∧a2=0∧a3=0):=⟨_,rfl⟩
 refine X.goX ([(33,.bool (.v nb)),(37,.bool (.v mb))]) ([]) T9_ok 400 _ rfl Tryz.results9 (fun pr pe fin hpr hpe hfin=>?_)
 conv=>cbv
 refine ⟨hpr _ (.of Tryz.call19 [.agg #[.int .u64 a1,.int .u8 a2,.int .u32 a3]] (.bool nb) (fun _=>rfl) (fun _=>rfl) fun _ w1 _=>by rw [hnb];exact none_ok a1 a2 a3 w1),hpr _ (.of Tryz.call20 [.agg _] (.bool mb) (fun _=>rfl) (fun _=>rfl) fun _ w1 hi1=>hmay w1 hi1),hfin _ _ ?_⟩
 clear hpr hpe hfin
 refine X.cond rfl (fun h=>?_) (fun h=>?_)
 ·refine X.go T9_ok 400 _ rfl Tryz.results9 ?_
  conv=>arg 2;cbv
  refine X.done T9_ok rfl (fun N w' v hN hS hv=>⟨?_,hS.chg.none⟩)
  simp only [resV,SV.den,SV.denL,Option.some.injEq] at hv
  rw [←hv]
 ·exfalso
  simp only [SB.F,SB.T,SI.den] at h
  refine hc' ?_
  simp at hnb
  grind
end Go.Proofs.YthpbefahaghbjaaGreat
namespace Go.Proofs.YthpbefahaghbjaaGreat
open Go Go.Eng Go.ChangeShapes Go.WideShapes
def WM.put (wm:WM) (i:Nat) (pl pa pe:Num):WM:=⟨wm.m,fun r=>if r=1 then pl else if r=2 then pa else if r=3+i then pe else wm.P r⟩
structure SawCore (wm wm':WM) (len ne i:Nat) (seen:List EntP) (Mo Mo' im:Mem) (w w':World):Prop where
 old:∀ k o v,Mo k o=some v→Mo' k o=some v
 new:∀ k o v,Mo' k o=some v→Mo k o=some v∨w.heap.size≤k
 put:∀ k o v,w.heap.size≤k→¬wm'.D ne k o→w'.cell? ⟨k,o,none⟩=some v→Mo' k o=some v
 mo:∀ k o v,Mo' k o=some v→w'.cell? ⟨k,o,none⟩=some v
 md:∀ k o,wm'.D ne k o→Mo' k o=none
 room:∀ r,r<3+ne→Room (wm'.P r) w'
 sep:∀ r r',r<3+ne→r'<3+ne→r≠r'→∀ k o,inN (wm'.P r) k o→¬inN (wm'.P r') k o
 inD:∀ k o,wm'.D ne k o→wm.D len k o∨w.heap.size≤k
 chg:Chg (wm.D len) w w'
 en:∀ j e,j≠i→seen[j]?=some e→EntAt Mo' (wm'.P (3+j)) e w'
 imn:∀ k o,w.heap.size≤k→wm'.D ne k o→im k o=none
theorem saw_core {fn:Func} {Q:Ending→World→Prop} {O D:Nat→Nat→Prop} {R:World→Prop} {im:Mem} {N0 N:Nums} {B:SchT} {rg:List Rg} {w w':World} {wm:WM} {s:WP} {Mo:Mem} (h:WatchAt wm s Mo w) (hS:Sat (mkE Tryz.prog fn Q w O im D R N0 B).toEnv N rg w')
  (i ne:Nat) (hi:i<s.seen.length∧ne=s.seen.length∨i=s.seen.length∧ne=s.seen.length+1) (hO:∀ k o,O k o→k=wm.m∨∃ r,(r<3∨r=3+i∧i<s.seen.length)∧inN (wm.P r) k o)
  (rl ra re:Nat) {pl pa pe:Num} {g0 gl ga ge:Rg} (h0:N[0]?=some (wm.P 0)) (hl:N[rl]?=some pl) (ha:N[ra]?=some pa) (he:N[re]?=some pe) (k0:rg[0]?=some g0) (kl:rg[rl]?=some gl) (ka:rg[ra]?=some ga) (ke:rg[re]?=some ge)
  (o0:g0.own=true) (ol:gl.own=true) (oa:ga.own=true) (oe:ge.own=true) (d1:0<rl) (d2:0<ra) (d3:0<re) (d4:rl≠ra) (d5:rl≠re) (d6:ra≠re):∃ Mo',SawCore wm (wm.put i pl pa pe) s.seen.length ne i s.seen Mo Mo' im w w':=by
 obtain ⟨wm',hwm⟩:∃ x,x=wm.put i pl pa pe:=⟨_,rfl⟩
 rw [←hwm]
 have hm':wm'.m=wm.m:=by rw [hwm];rfl
 have hP0:wm'.P 0=wm.P 0:=by
  rw [hwm];simp only [WM.put]
  rw [if_neg (by omega),if_neg (by omega),if_neg (by omega)]
 have hP1:wm'.P 1=pl:=by rw [hwm];simp [WM.put]
 have hP2:wm'.P 2=pa:=by rw [hwm];simp [WM.put]
 have hPe:wm'.P (3+i)=pe:=by
  rw [hwm];simp only [WM.put]
  rw [if_neg (by omega),if_neg (by omega),if_pos trivial]
 have hPo:∀ r,3≤r→r≠3+i→wm'.P r=wm.P r:=fun r h1 h2=>by
  rw [hwm];simp only [WM.put]
  rw [if_neg (by omega),if_neg (by omega),if_neg h2]
 -- the regions of its own
 have own:∀ r,r<3∨r=3+i→∃ ix g,rg[ix]?=some g∧g.own=true∧N[ix]?=some (wm'.P r)∧ix=(if r=0 then 0 else if r=1 then rl else if r=2 then ra else re):=fun r hr=>by
  rcases (by omega:r=0∨r=1∨r=2∨r=3+i) with rfl | rfl | rfl | rfl
  ·exact ⟨0,g0,k0,o0,by rw [hP0];exact h0,by simp⟩
  ·exact ⟨rl,gl,kl,ol,by rw [hP1];exact hl,by simp⟩
  ·exact ⟨ra,ga,ka,oa,by rw [hP2];exact ha,by simp⟩
  ·exact ⟨re,ge,ke,oe,by rw [hPe];exact he,by rw [if_neg (by omega),if_neg (by omega),if_neg (by omega)]⟩
 have hOD:∀ k o,O k o→wm.D s.seen.length k o:=fun k o ho=>by
  rcases hO k o ho with e | ⟨r,hr,hi'⟩
  ·exact .inl e
  ·exact .inr ⟨r,by omega,hi'⟩
 have foot:∀ r,r<3∨r=3+i→∀ k o,inN (wm'.P r) k o→w.heap.size≤k∨O k o:=fun r hr k o ⟨e1,e2,e3⟩=>by
  obtain ⟨ix,g,q1,q2,q3,_⟩:=own r hr
  rcases hS.foot ix g _ q1 q3 q2 with h1 | h1
  ·left;rw [e1];exact h1
  ·right
   have:=h1 (o-(wm'.P r).o) (by omega)
   rw [show (wm'.P r).o+(o-(wm'.P r).o)=o by omega,←e1] at this
   exact this
 have oldlt:∀ r,r<3+s.seen.length→∀ k o,inN (wm.P r) k o→k<w.heap.size:=fun r hr k o hi'=>h.lt (.inr ⟨r,hr,hi'⟩)
 have cls:∀ r,r<3+ne→(r<3∨r=3+i)∨(3≤r∧r≠3+i∧r<3+s.seen.length):=fun r hr=>by omega
 have oldO:∀ r,3≤r→r≠3+i→r<3+s.seen.length→∀ k o,inN (wm.P r) k o→¬O k o:=fun r h1 h2 h3 k o hi' ho=>by
  rcases hO k o ho with e | ⟨r',hr',hi2⟩
  ·exact h.ne h3 hi' e
  ·exact h.sep r r' h3 (by omega) (by omega) k o hi' hi2
 have inD:∀ k o,wm'.D ne k o→wm.D s.seen.length k o∨w.heap.size≤k:=fun k o hd=>by
  rcases hd with e | ⟨r,hr,hi'⟩
  ·exact .inl (.inl (by rw [←hm'];exact e))
  ·rcases cls r hr with h1 | ⟨h1,h2,h3⟩
   ·exact (foot r h1 k o hi').symm.imp (hOD k o) id
   ·rw [hPo r h1 h2] at hi'
    exact .inl (.inr ⟨r,h3,hi'⟩)
 obtain ⟨Mo',hMo'⟩:∃ M:Mem,M=fun k o=>open Classical in if (Mo k o).isSome then Mo k o else if w.heap.size≤k∧¬wm'.D ne k o then w'.cell? ⟨k,o,none⟩ else none:=⟨_,rfl⟩
 have old:∀ k o v,Mo k o=some v→Mo' k o=some v:=fun k o v hk=>by rw [hMo'];simp [hk]
 have hmd:∀ k o,wm'.D ne k o→Mo k o=none:=fun k o hd=>by
  rcases inD k o hd with h1 | h1
  ·exact h.md k o h1
  ·cases hk:Mo k o with
   | none=>rfl
   | some v =>
    have:=World.block_lt_of_cell? _ _ (h.mo k o v hk)
    simp only at this
    omega
 have hchg:Chg (wm.D s.seen.length) w w':=hS.chg.mono fun k o _ ho=>hOD k o ho
 refine ⟨Mo',old,fun k o v hk=>?_,fun k o v h1 h2 h3=>?_,fun k o v hk=>?_,fun k o hd=>?_,fun r hr=>?_,fun r r' hr hr' hne k o h1 h2=>?_,inD,hchg,fun j e hj hje=>?_,fun k o hk hd=>?_⟩
 ·cases hk2:Mo k o with
  | some u=>rw [old k o u hk2] at hk;exact .inl hk
  | none =>
   rw [hMo'] at hk
   simp only [hk2,Option.isSome_none,Bool.false_eq_true,if_false] at hk
   split at hk
   ·rename_i h1;exact .inr h1.1
   ·cases hk
 ·cases hk2:Mo k o with
  | some u =>
   have:=World.block_lt_of_cell? _ _ (h.mo k o u hk2)
   simp only at this
   omega
  | none =>
   rw [hMo']
   simp only [hk2,Option.isSome_none,Bool.false_eq_true,if_false]
   rw [if_pos ⟨h1,h2⟩]
   exact h3
 ·cases hk2:Mo k o with
  | some u =>
   have e1:=old k o u hk2
   rw [hk] at e1;cases e1
   exact cell_of_chg hchg (fun hd=>by rw [h.md k o hd] at hk2;cases hk2) (h.mo k o v hk2)
  | none =>
   rw [hMo'] at hk
   simp only [hk2,Option.isSome_none,Bool.false_eq_true,if_false] at hk
   split at hk
   ·exact hk
   ·cases hk
 ·rw [hMo']
  simp only [hmd k o hd,Option.isSome_none,Bool.false_eq_true,if_false]
  rw [if_neg (fun h=>h.2 hd)]
 ·rcases cls r hr with h1 | ⟨h1,h2,h3⟩
  ·obtain ⟨ix,g,q1,q2,q3,_⟩:=own r h1
   exact ⟨hS.lt ix _ q3,hS.room ix g _ q1 q3 q2⟩
  ·rw [hPo r h1 h2]
   exact (h.room r h3).chg hchg
 ·have mix:∀ a b,(a<3∨a=3+i)→(3≤b∧b≠3+i∧b<3+s.seen.length)→inN (wm'.P a) k o→inN (wm'.P b) k o→False:=fun a b ha hb h1 h2=>by
   rw [hPo b hb.1 hb.2.1] at h2
   rcases foot a ha k o h1 with q | q
   ·have:=oldlt b hb.2.2 k o h2
    omega
   ·exact oldO b hb.1 hb.2.1 hb.2.2 k o h2 q
  rcases cls r hr with c1 | c1
  ·rcases cls r' hr' with c2 | c2
   ·obtain ⟨ix,g,q1,q2,q3,q4⟩:=own r c1
    obtain ⟨ix',g',q1',q2',q3',q4'⟩:=own r' c2
    have hix:ix≠ix':=by
     rw [q4,q4']
     rcases (by omega:r=0∨r=1∨r=2∨r=3+i) with rfl | rfl | rfl | rfl<;>rcases (by omega:r'=0∨r'=1∨r'=2∨r'=3+i) with rfl | rfl | rfl | rfl <;>
      (repeat first | rw [if_pos rfl] | rw [if_neg (by omega)])<;>omega
    have:=hS.disj ix ix' g g' _ _ q1 q3 q1' q3' q2 hix (o-(wm'.P r').o) (by unfold Rg.wid;rw [q2'];have:=h2.2;simp;omega) (by rw [←h1.1,←h2.1])
    have a1:=h1.2
    have a2:=h2.2
    omega
   ·exact mix r r' c1 c2 h1 h2
  ·rcases cls r' hr' with c2 | c2
   ·exact mix r' r c2 c1 h2 h1
   ·rw [hPo r c1.1 c1.2.1] at h1
    rw [hPo r' c2.1 c2.2.1] at h2
    exact h.sep r r' c1.2.2 c2.2.2 hne k o h1 h2
 ·have hjl:=(List.getElem?_eq_some_iff.1 hje).1
  rw [hPo (3+j) (by omega) (by omega)]
  exact ((h.en j e hje).chg hS.chg (oldO (3+j) (by omega) (by omega) (by omega))).mono old
 ·rcases hd with e | ⟨r,hr,hi'⟩
  ·rw [hm'] at e
   obtain ⟨g,g1,_⟩:=h.mp
   have:=objAt_lt g1.ob
   omega
  ·rcases cls r hr with h1 | ⟨h1,h2,h3⟩
   ·obtain ⟨ix,g,q1,q2,q3,_⟩:=own r h1
    have:=hS.imd ix g _ q1 q3 q2 (o-(wm'.P r).o) (by have:=hi'.2;omega)
    rw [show (wm'.P r).o+(o-(wm'.P r).o)=o by have:=hi'.2;omega,←hi'.1] at this
    exact this
   ·rw [hPo r h1 h2] at hi'
    have:=oldlt r h3 k o hi'
    omega
theorem saw_end {wm:WM} {s s':WP} {Mo Mo' im:Mem} {w w':World} {i ne:Nat} {pl pa pe:Num} {e':EntP} (h:WatchAt wm s Mo w) (c:SawCore wm (wm.put i pl pa pe) s.seen.length ne i s.seen Mo Mo' im w w') (hlen:s'.seen.length=ne) (hi:s'.seen[i]?=some e') (ho:∀ j e,j≠i→s'.seen[j]?=some e→s.seen[j]?=some e)
  (hd:HasC (wm.P 0) [.map (some wm.m),gC pl s'.l.length,gC pa s'.all.length,.bool s'.torn] w') (hl:RowsW Mo' pl s'.l w') (ha:RowsW Mo' pa s'.all w') (he:EntAt Mo' pe e' w')
  (hm:∃ g,MapK Tryz.prog placeT wm.m g w'∧(∀ j e,s'.seen[j]?=some e→g (kvW e.key e.b)=some (ptrN ((wm.put i pl pa pe).P (3+j))))∧∀ key b,s'.pos key b=none→g (kvW key b)=none):SawRet wm s s' Mo w (.returned (.tuple #[])) w':=by
 have hP0:(wm.put i pl pa pe).P 0=wm.P 0:=by
  simp only [WM.put]
  rw [if_neg (by omega),if_neg (by omega),if_neg (by omega)]
 have hP1:(wm.put i pl pa pe).P 1=pl:=by simp [WM.put]
 have hP2:(wm.put i pl pa pe).P 2=pa:=by simp [WM.put]
 have hPe:(wm.put i pl pa pe).P (3+i)=pe:=by
  simp only [WM.put]
  rw [if_neg (by omega),if_neg (by omega),if_pos trivial]
 refine ⟨rfl,wm.put i pl pa pe,Mo',⟨by rw [hlen];exact c.room,by rw [hlen];exact c.sep,hm,⟨by rw [hP0];exact h.hd.1,by rw [hP0,hP1,hP2];exact hd⟩,by rw [hP1];exact hl,by rw [hP2];exact ha,fun j e hj=>?_,c.mo,by rw [hlen];exact c.md⟩,hP0,c.chg,by rw [hlen];exact c.inD,c.old,c.new⟩
 by_cases e1:j=i
 ·subst e1
  rw [hi] at hj;cases hj
  rw [hPe];exact he
 ·exact c.en j e e1 (ho j e e1 hj)
theorem hasC_of {E:Env} {N:Nums} {rg:List Rg} {w:World} (hS:Sat E N rg w) {r:Nat} {g:Rg} {p:Num} {vs:List Value} (hg:rg[r]?=some g) (hp:N[r]?=some p) (hd:SV.denL N g.cells=some vs):HasC p vs w:=fun j v hj=>by
 obtain ⟨h1,h2⟩:=SV.denL_get _ hd
 obtain ⟨c,hc⟩:∃ c,g.cells[j]?=some c:=⟨_,List.getElem?_eq_getElem (by rw [←h1];exact (List.getElem?_eq_some_iff.1 hj).1)⟩
 obtain ⟨v',h3,h4⟩:=h2 j c hc
 rw [hj] at h4;cases h4
 obtain ⟨v'',h5,h6⟩:=hS.cell r g p hg hp j c hc
 rw [h3] at h5;cases h5
 exact h6
theorem RowsW.snoc {M:Mem} {p:Num} {l:List VerP} {w:World} {vss:List (List Value)} {x:VerP} {vs:List Value} (h1:vss.length=l.length) (h2:∀ (i:Nat) (x:VerP),l[i]?=some x→∃ vs,vss[i]?=some vs∧RepL M x.toD vs) (h3:RepL M x.toD vs) (h4:HasC p (vss.flatten++vs) w) (h5:(l.length+1)*13≤p.x):RowsW M p (l++[x]) w:=by
 refine ⟨by simpa using h5,fun h=>by simp at h,vss++[vs],by simp [h1],fun i y hi=>?_,by simpa using h4⟩
 rcases Nat.lt_or_ge i l.length with hl | hl
 ·rw [List.getElem?_append_left hl] at hi
  obtain ⟨us,k1,k2⟩:=h2 i y hi
  exact ⟨us,by rw [List.getElem?_append_left (by omega)];exact k1,k2⟩
 ·rw [List.getElem?_append_right hl] at hi
  have:i-l.length=0:=by
   have:=(List.getElem?_eq_some_iff.1 hi).1
   simp at this;omega
  rw [this] at hi
  simp at hi;subst hi
  exact ⟨vs,by rw [List.getElem?_append_right (by omega),h1,this];rfl,h3⟩
theorem RowsW.same {M:Mem} {p:Num} {l:List VerP} {w:World} {vss:List (List Value)} (h1:vss.length=l.length) (h2:∀ (i:Nat) (x:VerP),l[i]?=some x→∃ vs,vss[i]?=some vs∧RepL M x.toD vs) (h4:HasC p vss.flatten w) (h5:l.length*13≤p.x) (h6:l=[]→p.x=0):RowsW M p l w:=⟨h5,h6,vss,h1,h2,h4⟩
end Go.Proofs.YthpbefahaghbjaaGreat
namespace Go.Eng
open Go
theorem wpF.weak {P:Program} {ops:Array Oper} {Q:Exit→Act→World→Prop} {S S':Array Bool→World→Prop} (hS:∀ L w,S L w→S' L w):∀ (m:Nat) (L:Array Bool) (a:Act) (w:World),wpF P ops Q S m L a w→wpF P ops Q S' m L a w
 | 0,_,_,_,h=>h
 | m+1,_,_,_,h=>⟨h.1,fun i hi=>wpOp_mono (fun a' w' h'=>⟨hS _ _ h'.1,wpF.weak hS m _ a' w' h'.2⟩) (h.2 i hi)⟩
def anyH (pe:PE) (pr:Owe→Prop) (fin:St→Prop) (td:List (Nat × SV)) (tx:List (Nat × Ef)) (T:Tab) (n:Nat) (all:Array Oper) (K:KW) (rg:List Rg) (hz:Nat) (H:STree→St→Prop):STree→St→Prop
 | .nil,s=>fin s
 | .q i blk r,s=>quietK K i=true∧match qP td T n all (maskRg (flatK (memB blk) K) rg 0) i s.fr with
  | some (f,o)=>prL pr o (anyH pe pr fin td tx T n all K rg hz H r ⟨f,s.rg⟩)
  | none=>False
 | .one i r,s=>bif Nat.beq i hz then H r s else stepX pe pr td tx T n all K i (fun s'=>anyH pe pr fin td tx T n all K rg hz H r s') s
 | .two i j x y,s=>(bif Nat.beq i hz then H x s else stepX pe pr td tx T n all K i (fun s'=>anyH pe pr fin td tx T n all K rg hz H x s') s)∧(bif Nat.beq j hz then H y s else stepX pe pr td tx T n all K j (fun s'=>anyH pe pr fin td tx T n all K rg hz H y s') s)
theorem anyH_sound {E:Env} {T:Tab} (hT:TabOk E.P T) {td:List (Nat × SV)} {tx:List (Nat × Ef)} {all:Array Oper} (hsel:Region.noSelect all=true) {Q:Exit→Act→World→Prop} (hQ:PanicOk Q) {N0:Nums} {K:KW} {rg:List Rg} {fin:St→Prop} {hz:Nat} {H:STree→St→Prop} {Nf:Nums} (wf:World) (hV:Vis Nf rg wf)
  (hH:∀ (m:Nat) (listed:Array Bool) (r:STree) {s:St} {N:Nums} {a:Act} {w:World},treeOk all r m (listed.setIfInBounds hz true)=true→hz∈Region.ready .any all listed→listed.size=all.size→H r s→Nf.le N→N0.le N→FrOk E.n N s.fr a→Sat E N s.rg w→Agree (wrL K (listed.setIfInBounds hz true)) rg s.rg→rg.length≤s.rg.length →
   wpOp E.P all Q hz (fun a' w'=>VI E.im Nf (maskRg (wrL K (listed.setIfInBounds hz true)) rg 0) w'∧wpF E.P all Q (fun L=>VI E.im Nf (maskRg (wrL K L) rg 0)) m (listed.setIfInBounds hz true) a' w') a w):∀ (t:STree) (m:Nat) (listed:Array Bool) {s:St} {N:Nums} {a:Act} {w:World},
  treeOk all t m listed=true→listed.size=all.size→anyH (EffOk E N0) (Owe.Ok E N0) fin td tx T E.n all K rg hz H t s→Nf.le N→N0.le N→FrOk E.n N s.fr a→Sat E N s.rg w→Agree (wrL K listed) rg s.rg→rg.length≤s.rg.length →
  (∀ s' N' a' w',fin s'→N.le N'→FrOk E.n N' s'.fr a'→Sat E N' s'.rg w'→Q .normal a' w')→wpF E.P all Q (fun L=>VI E.im Nf (maskRg (wrL K L) rg 0)) m listed a w:=by
 have emp:∀ {l:List Nat},l.isEmpty=true→l=[]:=by intro l h;cases l<;>simp at h ⊢
 have see:∀ (L:Array Bool) {N:Nums} {rg':List Rg} {w:World},Nf.le N→Agree (wrL K L) rg rg'→Sat E N rg' w→VI E.im Nf (maskRg (wrL K L) rg 0) w:=fun L _ _ _ hN ha hS=>⟨vis_of_agree (hV.mask _) hN ha hS,hS.imm⟩
 -- one operation that is ready
 have step:∀ (m:Nat) (listed:Array Bool) (i:Nat) (c:St→Prop) {s:St} {N:Nums} {a:Act} {w:World},i∈Region.ready .any all listed→listed.size=all.size→stepX (EffOk E N0) (Owe.Ok E N0) td tx T E.n all K i c s→Nf.le N→N0.le N→FrOk E.n N s.fr a→Sat E N s.rg w→Agree (wrL K listed) rg s.rg→rg.length≤s.rg.length →
   (∀ s' N' a' w',c s'→N.le N'→FrOk E.n N' s'.fr a'→Sat E N' s'.rg w'→Agree (wrL K (listed.setIfInBounds i true)) rg s'.rg→rg.length≤s'.rg.length→wpF E.P all Q (fun L=>VI E.im Nf (maskRg (wrL K L) rg 0)) m (listed.setIfInBounds i true) a' w') →
   wpOp E.P all Q i (fun a' w'=>VI E.im Nf (maskRg (wrL K (listed.setIfInBounds i true)) rg 0) w'∧wpF E.P all Q (fun L=>VI E.im Nf (maskRg (wrL K L) rg 0)) m (listed.setIfInBounds i true) a' w') a w:=by
  intro m listed i c s N a w hrm hn hg hN hN0 hf hS ha hl hk
  have hlt:i<listed.size:=by
   obtain ⟨_,o,ho,_⟩:=mem_ready.1 hrm
   rw [hn];exact (Array.getElem?_eq_some_iff.1 ho).1
  have hset:(listed.setIfInBounds i true).getD i false=true:=by simp [hlt]
  have grow:∀ r,memN (wrL K listed) r=true→memN (wrL K (listed.setIfInBounds i true)) r=true:=fun r h=>by
   obtain ⟨p,h1,h2,h3⟩:=memN_flat.1 h
   refine memN_flat.2 ⟨p,h1,?_,h3⟩
   by_cases e:i=p.1
   ·rw [←e];exact hset
   ·rw [getD_set_ne false e];exact h2
  have own:∀ k,memN (lookK K i) k=true→memN (wrL K (listed.setIfInBounds i true)) k=true:=fun k hk=>by
   obtain ⟨p,h1,h2,h3⟩:=lookK_mem hk
   exact memN_flat.2 ⟨p,h1,by rw [h2];exact hset,h3⟩
  have ha1:Agree (wrL K (listed.setIfInBounds i true)) rg s.rg:=ha.mono fun r hr=>by
   cases hx:memN (wrL K listed) r with
   | true=>rw [grow r hx] at hr;cases hr
   | false=>rfl
  obtain ⟨_,o,ho,_⟩:=mem_ready.1 hrm
  unfold stepX at hg
  unfold wpOp
  simp only [ho]
  split at hg
  ·rename_i f op e hq
   obtain ⟨hmk,hob,hg⟩:=hg
   obtain ⟨hw,hx⟩:=effQ_sound ho hq hob hN0 hf hS
   obtain ⟨hk1,hk2⟩:=e.keeps s.rg
   have ha2:Agree (wrL K (listed.setIfInBounds i true)) rg (e.up s.rg):=fun r g hg hr=>hk1 r g (ha1 r g hg hr) (allN_spec hmk r (by
    cases hx:memN (lookK K i) r with
    | true=>rw [own r hx] at hr;cases hr
    | false=>rfl))
   rw [hw,if_pos rfl]
   exact .inl (hx _ _ fun N' x w' hN' hf' hS'=>⟨see _ (hN.trans hN') ha2 hS',hk _ N' _ w' hg hN' hf' hS' ha2 (Nat.le_trans hl hk2)⟩)
  unfold stepT at hg
  split at hg
  ·rename_i f ob hq
   obtain ⟨hob,hg⟩:=prL_spec hg
   obtain ⟨v,hv,hfr⟩:=qP_sound hT ho hq hob hN0 hf hS.vi
   have hnext:=hk _ N _ w hg (Nums.le.refl N) hfr hS ha1 hl
   rcases hv with ⟨hw,hrun⟩ | ⟨hw,rfl⟩
   ·rw [hw,if_pos rfl]
    exact .inl (wp_of_yields (.inl (hrun w hS.vi)) ⟨see _ hN ha1 hS,hnext⟩)
   ·rw [hw]
    exact ⟨see _ hN ha1 hS,hnext⟩
  ·split at hg
   ·rename_i s1 he
    obtain ⟨hmk,hg2⟩:=hg
    obtain ⟨hw,N',x,w',hN',hy,hf',hS'⟩:=opE_sound hT (by simpa using ho) he hf hS
    have ha2:=stepE_agree (ks:=wrL K (listed.setIfInBounds i true)) ha1 hl (by
     split
     ·rename_i k hk'
      rw [hk'] at hmk
      exact own k hmk
     ·rfl) he
    rw [hw,if_pos rfl]
    exact .inl (wp_of_yields hy ⟨see _ (hN.trans hN') ha2.1 hS',hk _ N' _ _ hg2 hN' hf' hS' ha2.1 ha2.2⟩)
   ·split at hg
    ·rename_i f gk g l v hpc
     obtain ⟨hob,hg⟩:=hg
     rcases pcall_sound ho hpc hob hN0 hf hS with ⟨hw,hx⟩ | ⟨hw,hf'⟩
     ·rw [hw,if_pos rfl]
      exact .inl (hx _ _ fun x w' hf' hS'=>⟨see _ hN ha1 hS',hk _ N _ w' hg (Nums.le.refl N) hf' hS' ha1 hl⟩)
     ·rw [hw]
      exact ⟨see _ hN ha1 hS,hk _ N _ w hg (Nums.le.refl N) hf' hS ha1 hl⟩
    ·exact hg.elim
 have grow0:∀ (listed:Array Bool) (i:Nat),i<listed.size→∀ r,memN (wrL K listed) r=true→memN (wrL K (listed.setIfInBounds i true)) r=true:=fun listed i hlt r h=>by
  obtain ⟨p,h1,h2,h3⟩:=memN_flat.1 h
  refine memN_flat.2 ⟨p,h1,?_,h3⟩
  by_cases e:i=p.1
  ·rw [←e];simp [hlt]
  ·rw [getD_set_ne false e];exact h2
 have hand:∀ (m:Nat) (listed:Array Bool) (i:Nat) (r:STree) (c:St→Prop) {s:St} {N:Nums} {a:Act} {w:World},i∈Region.ready .any all listed→listed.size=all.size→treeOk all r m (listed.setIfInBounds i true)=true→(bif Nat.beq i hz then H r s else stepX (EffOk E N0) (Owe.Ok E N0) td tx T E.n all K i c s)→Nf.le N→N0.le N→FrOk E.n N s.fr a→Sat E N s.rg w→Agree (wrL K listed) rg s.rg→rg.length≤s.rg.length →
   (∀ s' N' a' w',c s'→N.le N'→FrOk E.n N' s'.fr a'→Sat E N' s'.rg w'→Agree (wrL K (listed.setIfInBounds i true)) rg s'.rg→rg.length≤s'.rg.length→wpF E.P all Q (fun L=>VI E.im Nf (maskRg (wrL K L) rg 0)) m (listed.setIfInBounds i true) a' w') →
   wpOp E.P all Q i (fun a' w'=>VI E.im Nf (maskRg (wrL K (listed.setIfInBounds i true)) rg 0) w'∧wpF E.P all Q (fun L=>VI E.im Nf (maskRg (wrL K L) rg 0)) m (listed.setIfInBounds i true) a' w') a w:=by
  intro m listed i r c s N a w hrm hn ht hg hN hN0 hf hS ha hl hk
  cases hb:Nat.beq i hz with
  | true =>
   rw [hb] at hg
   obtain rfl:=Nat.eq_of_beq_eq_true hb
   have hlt:i<listed.size:=by
    obtain ⟨_,o,ho,_⟩:=mem_ready.1 hrm
    rw [hn];exact (Array.getElem?_eq_some_iff.1 ho).1
   exact hH m listed r ht hrm hn hg hN hN0 hf hS (ha.mono fun r hr=>by
    cases hx:memN (wrL K listed) r with
    | true=>rw [grow0 listed i hlt r hx] at hr;cases hr
    | false=>rfl) hl
  | false =>
   rw [hb] at hg
   exact step m listed i c hrm hn hg hN hN0 hf hS ha hl hk
 intro t
 induction t with
 | nil =>
  intro m listed s N a w hs hn hg hN hN0 hf hS ha hl hk
  simp only [treeOk,Bool.and_eq_true] at hs
  obtain rfl:=Nat.eq_of_beq_eq_true hs.1
  exact wpF.done (emp hs.2) (hk s N a w hg (Nums.le.refl N) hf hS)
 | q i blk r ih =>
  intro m listed s N a w hs hn hg hN hN0 hf hS ha hl hk
  cases m with
  | zero=>simp [treeOk] at hs
  | succ m =>
   have hS0:=see listed hN ha hS
   simp only [treeOk,Bool.and_eq_true] at hs
   obtain ⟨⟨⟨⟨hr,hfree⟩,hclosed⟩,hwithin⟩,hs⟩:=hs
   simp only [anyH] at hg
   obtain ⟨hqk,hg⟩:=hg
   have hqk:=quietK_spec hqk
   have hrm:i∈Region.ready .any all listed:=by simpa using hr
   have hi0:listed.getD i false=false:=by
    have h1:=(mem_ready.1 hrm).1
    rcases Nat.lt_or_ge i listed.size with h' | h'
    ·simp [h'] at h1 ⊢;exact h1
    ·rw [Array.getD_eq_getD_getElem?,Array.getElem?_eq_none h'];rfl
   have same:∀ (L:Array Bool) (r:Nat),memN (wrL K (L.setIfInBounds i true)) r=true↔memN (wrL K L) r=true:=fun L r=>by
    simp only [wrL,memN_flat]
    constructor
    ·rintro ⟨p,h1,h2,h3⟩
     exact ⟨p,h1,by rwa [getD_set_ne false (fun e=>hqk p h1 e.symm)] at h2,h3⟩
    ·rintro ⟨p,h1,h2,h3⟩
     exact ⟨p,h1,by rwa [getD_set_ne false (fun e=>hqk p h1 e.symm)],h3⟩
   split at hg
   ·rename_i f ob hq
    obtain ⟨_,o,ho,_⟩:=mem_ready.1 hrm
    obtain ⟨hob,hg⟩:=prL_spec hg
    have wide:∀ {L':Array Bool} {w':World},Up all i listed L'→VI E.im Nf (maskRg (wrL K L') rg 0) w'→VI E.im Nf (maskRg (flatK (memB blk) K) rg 0) w':=fun hup hv =>
     ⟨hv.1.more fun r hr=>by
      obtain ⟨p,h1,h2,h3⟩:=memN_flat.1 hr
      exact memN_flat.2 ⟨p,h1,(hup.within hclosed hn hi0 hwithin).2.2 _ h2,h3⟩,hv.2⟩
    obtain ⟨v,hv,hfr⟩:=qP_sound hT ho hq hob hN0 hf ((wide .here hS0).mono hN)
    refine wpF.take (S:=fun L=>VI E.im Nf (maskRg (wrL K L) rg 0)) ho hsel hfree hr (fun c a w h=>hQ c a o.dst v w h) (fun L w=>⟨fun h=>⟨h.1.more fun r hr=>(same L r).1 hr,h.2⟩,fun h=>⟨h.1.more fun r hr=>(same L r).2 hr,h.2⟩⟩) ?_ hS0
     (ih m _ hs (by simpa using hn) hg hN hN0 hfr hS (fun r g hg hm=>ha r g hg (by
      cases hx:memN (wrL K listed) r with
      | true=>rw [(same listed r).2 hx] at hm;cases hm
      | false=>rfl)) hl hk)
    rcases hv with ⟨hw,hrun⟩ | ⟨hw,rfl⟩
    ·exact .inl ⟨hw,fun w ⟨L',hup,hw⟩=>hrun w ((wide hup hw).mono hN)⟩
    ·exact .inr ⟨hw,rfl⟩
   ·exact hg.elim
 | one i r ih =>
  intro m listed s N a w hs hn hg hN hN0 hf hS ha hl hk
  cases m with
  | zero=>simp [treeOk] at hs
  | succ m =>
   simp only [treeOk,Bool.and_eq_true] at hs
   have hr:=only_spec hs.1
   refine wpF.all hr (by simp) fun j hj=>?_
   simp only [List.mem_singleton] at hj;subst hj
   simp only [anyH] at hg
   refine hand m listed j _ _ (by rw [hr];simp) hn hs.2 hg hN hN0 hf hS ha hl fun s' N' a' w' hc hN' hf' hS' ha' hl'=>?_
   exact ih m _ hs.2 (by simpa using hn) hc (hN.trans hN') (hN0.trans hN') hf' hS' ha' hl' fun s2 N2 a2 w2 h1 h2=>hk s2 N2 a2 w2 h1 (hN'.trans h2)
 | two i j x y ihx ihy =>
  intro m listed s N a w hs hn hg hN hN0 hf hS ha hl hk
  cases m with
  | zero=>simp [treeOk] at hs
  | succ m =>
   simp only [treeOk,Bool.and_eq_true] at hs
   obtain ⟨⟨h2,hx⟩,hy⟩:=hs
   have hr:=only2_spec h2
   have hmi:i∈Region.ready .any all listed:=by rcases hr with h | h<;>rw [h]<;>simp
   have hmj:j∈Region.ready .any all listed:=by rcases hr with h | h<;>rw [h]<;>simp
   simp only [anyH] at hg
   have si:=hand m listed i _ _ hmi hn hx hg.1 hN hN0 hf hS ha hl fun s' N' a' w' hc hN' hf' hS' ha' hl'=>ihx m _ hx (by simpa using hn) hc (hN.trans hN') (hN0.trans hN') hf' hS' ha' hl' fun s2 N2 a2 w2 h1 h2=>hk s2 N2 a2 w2 h1 (hN'.trans h2)
   have sj:=hand m listed j _ _ hmj hn hy hg.2 hN hN0 hf hS ha hl fun s' N' a' w' hc hN' hf' hS' ha' hl'=>ihy m _ hy (by simpa using hn) hc (hN.trans hN') (hN0.trans hN') hf' hS' ha' hl' fun s2 N2 a2 w2 h1 h2=>hk s2 N2 a2 w2 h1 (hN'.trans h2)
   rcases hr with h | h
   ·exact wpF.all h (by simp) fun q hq=>by
     simp only [List.mem_cons,List.not_mem_nil,or_false] at hq
     rcases hq with rfl | rfl
     ·exact si
     ·exact sj
   ·exact wpF.all h (by simp) fun q hq=>by
     simp only [List.mem_cons,List.not_mem_nil,or_false] at hq
     rcases hq with rfl | rfl
     ·exact sj
     ·exact si
def GoesT (E:Ctx) (k:List It) (T:Tab) (n:Nat) (all:Array Oper) (K:KW) (rg:List Rg) (r:STree) (N:Nums) (fr:Fr) (rg1:List Rg) (d:Option Nat) (v:Value) (w':World):Prop :=
 ∃ (E':Ctx) (rv:SV) (f':Fr) (td:List (Nat × SV)) (tx:List (Nat × Ef)),E'.P=E.P∧E'.n=E.n∧E'.B=E.B∧E'.Q=E.Q∧(∀ k o v,E.im k o=some v→E'.im k o=some v)∧E'.N0.le N∧Sat E'.toEnv N rg1 w'∧rv.den N=some v∧putO n fr d (.val rv)=some f' ∧
  ∀ (pr:Owe→Prop) (pe:PE) (fin:St→Prop),(∀ q:Owe,q.Ok E'.toEnv E'.N0→pr q)→(∀ rg f op r rg',EffOk E'.toEnv E'.N0 rg f op r rg'→pe rg f op r rg')→(∀ s',X E' k s'→fin s')→anyX pe pr fin td tx T n all K rg r ⟨f',rg1⟩
def HandC (E:Ctx) (k:List It) (T:Tab) (n:Nat) (all:Array Oper) (K:KW) (rg:List Rg) (hz:Nat) (r:STree) (s:St):Prop :=
 ∃ (o:Oper) (g:FuncId) (xs:Array Operand) (ts:Array TypeId) (l:List SV),nth all.toList hz=some o∧o.guard=none∧o.op=.call { callee:=.value (.func g),args:=xs,argTypes:=ts }∧evL s.fr xs.toList=some l∧(∀ args w,(callFunc g args).run E.P w=.ok (.enter g args) w) ∧
  ∀ (N:Nums) (w:World) (args:List Value),E.N0.le N→Sat E.toEnv N s.rg w→SV.denL N l=some args→Calls E.P g args.toArray w fun e w'=>∃ v,e=.returned v∧GoesT E k T n all K rg r N s.fr s.rg o.dst v w'
theorem X.goH {P:Program} {fn:Func} {R:Ending→World→Prop} {W:World} {O:Nat→Nat→Prop} {im:Nat→Nat→Option Value} {D:Nat→Nat→Prop} {Rr:World→Prop} {N0:Nums} {B:SchT} {T:Tab} (td:List (Nat × SV)) (tx:List (Nat × Ef)) (hT:TabOk P T) (t:STree) (n:Nat) (hz:Nat) (K:KW) {id:Nat} {ops:Array Oper} {k:List It} {s:St}
  (hn:fn.ntmps=n) (hsel:Region.noSelect ops=true) (ht:treeOk ops t ops.size (Array.replicate ops.size false)=true)
  (h:∀ (pr:Owe→Prop) (pe:PE) (fin:St→Prop) (H:STree→St→Prop),(∀ q:Owe,q.Ok (mkE P fn R W O im D Rr N0 B).toEnv N0→pr q)→(∀ rg f op r rg',EffOk (mkE P fn R W O im D Rr N0 B).toEnv N0 rg f op r rg'→pe rg f op r rg')→(∀ s',X (mkE P fn R W O im D Rr N0 B) k s'→fin s') →
   (∀ r s',HandC (mkE P fn R W O im D Rr N0 B) k T n ops K s.rg hz r s'→H r s')→anyH pe pr fin td tx T n ops K s.rg hz H t s):X (mkE P fn R W O im D Rr N0 B) (.code (.region id ops true)::k) s:=by
 subst hn
 intro N a w hN hf hS
 show _→Code.wp _ _ _ _ _
 intro _
 have hg:=h (Owe.Ok (mkE P fn R W O im D Rr N0 B).toEnv N0) (EffOk (mkE P fn R W O im D Rr N0 B).toEnv N0) (fun s'=>X (mkE P fn R W O im D Rr N0 B) k s') (HandC (mkE P fn R W O im D Rr N0 B) k T fn.ntmps ops K s.rg hz) (fun _ h=>h) (fun _ _ _ _ _ h=>h) (fun _ h=>h) (fun _ _ h=>h)
 have hS':Sat (mkE P fn R W O im D Rr N0 B).toEnv N s.rg { w with drawn:=w.drawn+1 }:=hS.drew
 have hQ:=PanicOk.sem (P:=P) (B:=B) (Q:=bodyPost P fn R) (fun _ _ d _ _ h=>by cases d<;>exact h) k
 have hwf:=anyH_sound (E:=(mkE P fn R W O im D Rr N0 B).toEnv) (H:=HandC (mkE P fn R W O im D Rr N0 B) k T fn.ntmps ops K s.rg hz) hT hsel hQ _ hS'.vis (fun m listed r s1 N1 a1 w1 htr hrm hnl hh hNf hN1 hf1 hS1 ha1 hl1=>by
  obtain ⟨o,g,xs,ts,l,ho,hgd,hop,hl,hb,hc⟩:=hh
  have ho':ops[hz]?=some o:=by rw [nth_eq] at ho;simpa using ho
  have hargs:=evL_sound hf1 _ hl
  have hc:=hc N1 w1 _ hN1 hS1 hargs
  have hrun:(execOp a1.eval o).run P w1=.ok (.enter g (xs.toList.map a1.eval).toArray) w1:=by
   simp only [execOp,hop,resolve,Act.eval,Deferred.ofValue,Sem.run_bind,Sem.run_pure,Result.andThen,invoke]
   rw [hb]
   congr 2
   apply Array.ext'
   simp
  unfold wpOp
  simp only [ho']
  have hw:Region.wanted o (yielded ops a1.tmps)=true:=by simp [Region.wanted,hgd]
  rw [hw,if_pos rfl]
  refine .inl ?_
  unfold Oper.wp
  rw [hrun]
  refine Calls.mono hc fun e w' ⟨v,he,hv⟩=>?_
  subst he
  obtain ⟨⟨⟨P2,n2,Q2,W2,O2,im2,D2,R2⟩,N2,B2⟩,rv,f',td2,tx2,e1,e2,e3,e4,him,hN0',hS2,hr,hp,hx⟩:=hv
  change P2=P at e1
  change n2=fn.ntmps at e2
  change B2=B at e3
  change Q2=bodyPost P fn R at e4
  subst e1
  subst e2
  subst e3
  have hx:=hx _ _ (fun s'=>X ⟨⟨P2,fn.ntmps,Q2,W2,O2,im2,D2,R2⟩,N2,B2⟩ k s') (fun _ h=>h) (fun _ _ _ _ _ h=>h) (fun _ h=>h)
  have hf':FrOk fn.ntmps N1 f' (a1.put o.dst v):=putO_sound hf1 hr hp
  have hwf:=anyX_sound hT hsel hQ _ hS'.vis r m _ htr (by simpa using hnl) hx hNf hN0' hf' hS2 ha1 hl1 (fun s3 N3 a3 w3 h1 h2 h3 h4=>by
   have:=h1 N3 a3 w3 (hN0'.trans h2) h3 h4
   rw [←e4]
   exact this)
  exact ⟨⟨vis_of_agree (hS'.vis.mask _) hNf ha1 hS2,fun k o v h=>hS2.imm k o v (him k o v h)⟩,wpF.weak (fun L w h=>⟨h.1,fun k o v hk=>h.2 k o v (him k o v hk)⟩) m _ _ _ hwf⟩) t _ _ ht (by simp) hg (Nums.le.refl N) hN hf hS' (fun r g hg _=>hg) (Nat.le_refl _) (fun s' N' a' w' h1 h2 h3 h4=>h1 N' a' w' (hN.trans h2) h3 h4)
 exact wp_region_any hT.mixed hwf.any
end Go.Eng
namespace Go.Proofs.YthpbefahaghbjaaGreat
open Go Go.Eng Go.ChangeShapes Go.WideShapes
theorem repl_one {M:Mem}:∀ {ds:List Dt} {vs:List Value},RepL M ds vs→vs.all one?=true
 | [],vs,h=>by rw [RepL.nil h];rfl
 | d::ds,vs,h=>by
  obtain ⟨v,r,rfl,h1,h2⟩:=RepL.cons h
  rw [List.all_cons,repl_one h2,Bool.and_true]
  cases d with
  | int k z=>rw [RepC.int' h1];rfl
  | bool b=>rw [RepC.bool' h1];rfl
  | str s=>simp only [RepC] at h1;rw [h1];rfl
  | list rows=>simp only [RepC] at h1;obtain ⟨p,c,h1,_⟩:=h1;rw [h1];rfl
structure EntC where
 (cc:Int) (op:Option Addr) (on oc:Nat) (np:Option Addr) (nn nc:Nat) (g:RegS) (nodes:Nat) (agreed:Bool)
def EntC.svs (e:EntC):List SV:=.int .u64 (.v e.cc)::.slv e.op e.on e.oc::.slv e.np e.nn e.nc::(e.g.svs++[.int .u64 (.nat e.nodes),.bool (.v e.agreed)])
def EntC.vals (e:EntC):List Value:=.int .u64 e.cc::.slice e.op e.on e.oc::.slice e.np e.nn e.nc::(e.g.vals++[.int .u64 e.nodes,.bool e.agreed])
theorem EntC.den (e:EntC) (N:Nums):SV.denL N e.svs=some e.vals:=rfl
theorem EntAt.cells {M:Mem} {p:Num} {e:EntP} {w:World} (h:EntAt M p e w):∃ c:EntC,c.cc=e.c.c∧c.on=e.c.old.length∧c.nn=e.c.new.length∧c.nodes=e.nodes∧c.agreed=e.agreed∧RepL M e.c.toD [.int .u64 c.cc,.slice c.op c.on c.oc,.slice c.np c.nn c.nc]∧RepL M e.reg.toD c.g.vals∧13≤p.x∧HasC p c.vals w∧SlR M c.op c.oc 1 (e.c.old.map u8D)∧SlR M c.np c.nc 1 (e.c.new.map u8D):=by
 obtain ⟨h1,cv,rv,h2,h3,h4⟩:=h
 obtain ⟨op,oc,np,nc,rfl,k1,k2⟩:=ConfP.open h2
 obtain ⟨g,rfl⟩:=RegS.of h3
 exact ⟨⟨e.c.c,op,_,oc,np,_,nc,g,e.nodes,e.agreed⟩,rfl,rfl,rfl,rfl,rfl,h2,h3,h1,h4,k1,k2⟩
theorem EntAt.of {M:Mem} {p:Num} {e:EntP} {w:World} (c:EntC) (h1:RepL M e.c.toD [.int .u64 c.cc,.slice c.op c.on c.oc,.slice c.np c.nn c.nc]) (h2:RepL M e.reg.toD c.g.vals) (h3:c.nodes=e.nodes) (h4:c.agreed=e.agreed) (h5:13≤p.x) (h6:HasC p c.vals w):EntAt M p e w :=
 ⟨h5,_,_,h1,h2,by rw [←h3,←h4];exact h6⟩
theorem rgAt_of {w:World} {N:Nums} {p:Num} {cs:List SV} {vs:List Value} (hr:Room p w) (hc:HasC p vs w) (hd:SV.denL N cs=some vs) (hl:vs.length≤p.x):RgAt w N p ⟨true,cs,none⟩:=by
 obtain ⟨h1,h2⟩:=SV.denL_get _ hd
 refine ⟨hr.1,rfl,fun j c hj=>?_,fun _=>by show cs.length≤p.x;rw [←h1];exact hl,fun _=>hr.2⟩
 obtain ⟨v,h3,h4⟩:=h2 j c hj
 exact ⟨v,h3,hc j v h4⟩
theorem rawL_denL {vs:List Value} (h:vs.all one?=true) (N:Nums):SV.denL N (rawL vs)=some vs:=by
 induction vs with
 | nil=>rfl
 | cons v vs ih =>
  simp only [List.all_cons,Bool.and_eq_true] at h
  show SV.denL N (.raw v::rawL vs)=_
  simp only [SV.denL,SV.den,h.1,if_true,ih h.2]
theorem sepR_of {p p':Num} {g g':Rg} (hg:g.own=true) (hg':g'.own=true) (h:∀ k o,inN p k o→¬inN p' k o):SepR p g p' g':=fun _ j j' hj hj' ⟨e1,e2⟩=>by
 unfold Rg.wid at hj hj'
 rw [hg] at hj
 rw [hg'] at hj'
 exact h p.b (p.o+j) ⟨rfl,by omega,by simpa using hj⟩ ⟨e1,by omega,by simp at hj';omega⟩
theorem RowsW.cells {M:Mem} {p:Num} {l:List VerP} {w:World} (h:RowsW M p l w):∃ vss:List (List Value),vss.length=l.length∧(∀ (i:Nat) (x:VerP),l[i]?=some x→∃ vs,vss[i]?=some vs∧RepL M x.toD vs)∧HasC p vss.flatten w∧vss.flatten.length=l.length*13∧vss.flatten.all one?=true:=by
 obtain ⟨h1,h2,vss,h3,h4,h5⟩:=h
 have hx:∀ vs∈vss,∃ x:VerP,RepL M x.toD vs:=fun vs hv=>by
  obtain ⟨i,hi⟩:=List.mem_iff_getElem?.1 hv
  obtain ⟨x,hx⟩:∃ x,l[i]?=some x:=⟨_,List.getElem?_eq_getElem (by rw [←h3];exact (List.getElem?_eq_some_iff.1 hi).1)⟩
  obtain ⟨vs',k1,k2⟩:=h4 i x hx
  rw [hi] at k1;cases k1
  exact ⟨x,k2⟩
 refine ⟨vss,h3,h4,h5,?_,?_⟩
 ·rw [flatten_len (K:=13) fun v hv=>by obtain ⟨x,hx⟩:=hx v hv;rw [hx.len];rfl,h3]
 ·rw [List.all_flatten,List.all_eq_true]
  exact fun v hv=>by obtain ⟨x,hx⟩:=hx v hv;exact repl_one hx
theorem pos_spec {s:WP} {key:Int} {b:BalP} {i:Nat} {e:EntP} (h:s.pos key b=some i) (he:s.seen[i]?=some e):e.key=key∧e.b=b:=by
 unfold WP.pos at h
 obtain ⟨h1,h2,_⟩:=List.findIdx?_eq_some_iff_getElem.1 h
 rw [List.getElem?_eq_getElem h1] at he
 obtain rfl:=Option.some.inj he
 simpa [EntP.at'] using h2
theorem TelC.Of.conf {M:Mem} {t:TelC} {x:TelP} (h:t.Of M x):RepL M x.c.toD [.int .u64 t.cc,.slice t.op t.on t.oc,.slice t.np t.nn t.nc]:=by
 obtain ⟨e1,e2,e3,e4,_⟩:=h.e
 unfold ConfP.toD
 simp only [RepL]
 exact ⟨_,_,rfl,by rw [e2];simp only [RepC],_,_,rfl,RepC.mk (by rw [e3];simp) sz_u8 h.o,_,_,rfl,RepC.mk (by rw [e4];simp) sz_u8 h.n,rfl⟩
theorem denL_append {N:Nums}:∀ {a b:List SV} {u v:List Value},SV.denL N a=some u→SV.denL N b=some v→SV.denL N (a++b)=some (u++v)
 | [],b,u,v,h,k=>by simp only [SV.denL,Option.some.injEq] at h;subst h;exact k
 | c::a,b,u,v,h,k=>by
  simp only [SV.denL] at h
  cases hc:c.den N with
  | none=>simp [hc] at h
  | some x =>
   cases ha:SV.denL N a with
   | none=>simp [hc,ha] at h
   | some y =>
    simp only [hc,ha,Option.some.injEq] at h
    subst h
    simp only [List.cons_append,SV.denL,hc,denL_append ha k]
theorem placeLaw:WideMaps.KeyLaw Tryz.prog placeT:=deep_law_laid (by kernel_rfl) (m:=4) (by omega) (of_decide_eq_true (by kernel_rfl)) (by kernel_rfl) (by kernel_rfl)
theorem placeKey {key:Int} {b:BalP} (h0:(Lit.int .u8 key).wf=true) (h1:(Lit.int .u64 b.count).wf=true) (h2:(Lit.int .u8 b.node).wf=true) (h3:(Lit.int .u32 b.life).wf=true):∃ l,keyOf Tryz.prog placeT (kvW key b)=some l:=by
 obtain ⟨c,nd,lf⟩:=b
 have u1:Tryz.prog.underlying placeT=_:=Tryz.underlying64
 have u2:=Tryz.underlying35
 have c0:Tryz.prog.cellsOf placeT=4:=by kernel_rfl
 have c1:Tryz.prog.cellsOf 35=3:=by kernel_rfl
 have c2:Tryz.prog.cellsOf 5=1:=by kernel_rfl
 have c3:Tryz.prog.cellsOf 29=1:=by kernel_rfl
 have c4:Tryz.prog.cellsOf 33=1:=by kernel_rfl
 obtain ⟨D,hD⟩:∃ D,Tryz.prog.types.size+1=D+3:=⟨Tryz.prog.types.size-2,by have:2≤Tryz.prog.types.size:=of_decide_eq_true (by kernel_rfl);omega⟩
 have hk:Tryz.prog.keyLits (D+3) placeT [.int .u8 key,.int .u64 c,.int .u8 nd,.int .u32 lf]=some [.int .u8 key,.int .u64 c,.int .u8 nd,.int .u32 lf]:=by
  simp [Program.keyLits,u1,u2,c0,c1,c2,c3,c4,Tryz.underlying5,Tryz.underlying29,Tryz.underlying33,h0,h1,h2,h3]
  rw [if_pos (fun i hi=>by match i,hi with | 0,_ | 1,_ | 2,_=>simp)]
  rfl
 have hf:(kvW key ⟨c,nd,lf⟩).formed Tryz.prog placeT=true:=by
  simp [Value.formed,kvW,u1,c0]
 have ht:Tryz.prog.keyType placeT=true:=by kernel_rfl
 unfold keyOf
 rw [u1]
 simp only [ht,hf,Bool.and_self,if_true,hD]
 have hcl:(kvW key ⟨c,nd,lf⟩).cells.toList=[.int .u8 key,.int .u64 c,.int .u8 nd,.int .u32 lf]:=rfl
 rw [hcl,hk]
 exact ⟨_,rfl⟩
theorem saw_found (wm:WM) (s:WP) (n:Nat) (Mo:Mem) (w:World) (t:TelC) (x:TelP) (i:Nat) (e:EntP) (h:WatchAt wm s Mo w) (ok:s.Ok n) (hn:n≤1000) (ht:t.Of Mo x) (hx:x.Ok) (hc:x.cnt) (hp:s.pos x.key x.s.acc=some i) (he:s.seen[i]?=some e) :
  Calls Tryz.prog 9 (sawA (wm.P 0).b (wm.P 0).o t) w (SawRet wm s (s.told i e x) Mo w):=by
 obtain ⟨Q,hQ⟩:∃ Q:Ending→World→Prop,Q=SawRet wm s (s.told i e x) Mo w:=⟨_,rfl⟩
 rw [←hQ]
 have hil:i<s.seen.length:=(List.getElem?_eq_some_iff.1 he).1
 obtain ⟨hek,heb⟩:=pos_spec hp he
 obtain ⟨e1,e2,e3,e4,e5,e6,e7,e8⟩:=ht.e
 have ho:=SlR.inB (w:=w) ht.o h.mo
 have hnw:=SlR.inB (w:=w) ht.n h.mo
 have hcc:((x.c.c.toNat:Nat):Int)=t.cc:=by rw [e2];exact Int.toNat_of_nonneg hx.c0
 obtain ⟨ec,f1,f2,f3,f4,f5,f6,f7,f8,f9,f10,f11⟩:=(h.en i e he).cells
 obtain ⟨vl,l1,l2,l3,l4,l5⟩:=h.l.cells
 obtain ⟨va,a1,a2,a3,a4,a5⟩:=h.a.cells
 obtain ⟨gm,m1,m2,m3⟩:=h.mp
 obtain ⟨hd1,hd2⟩:=h.hd
 obtain ⟨O,hOe⟩:∃ O:Nat→Nat→Prop,O=fun k o=>k=wm.m∨∃ r,(r<3∨r=3+i∧i<s.seen.length)∧inN (wm.P r) k o:=⟨_,rfl⟩
 have hO:∀ k o,O k o→k=wm.m∨∃ r,(r<3∨r=3+i∧i<s.seen.length)∧inN (wm.P r) k o:=fun k o ho=>by rw [hOe] at ho;exact ho
 have hO2:∀ r,(r<3∨r=3+i)→∀ k o,inN (wm.P r) k o→O k o:=fun r hr k o hi=>by rw [hOe];exact .inr ⟨r,by omega,hi⟩
 have hOD:∀ k o,O k o→wm.D s.seen.length k o:=fun k o ho=>by
  rcases hO k o ho with e | ⟨r,hr,hi'⟩
  ·exact .inl e
  ·exact .inr ⟨r,by omega,hi'⟩
 obtain ⟨im,hime⟩:∃ im,im=outside O w:=⟨_,rfl⟩
 have hMi:∀ k o v,Mo k o=some v→im k o=some v:=fun k o v hk=>by
  rw [hime,outside_out (fun hd=>by rw [h.md k o (hOD k o hd)] at hk;cases hk)];exact h.mo k o v hk
 obtain ⟨sl,hsl⟩:∃ sl,sl=gV 1 s.l.length 13:=⟨_,rfl⟩
 obtain ⟨sa,hsa⟩:∃ sl,sl=gV 2 s.all.length 13:=⟨_,rfl⟩
 obtain ⟨cl,hcl⟩:∃ c,c=rawL vl.flatten:=⟨_,rfl⟩
 obtain ⟨ca,hca⟩:∃ c,c=rawL va.flatten:=⟨_,rfl⟩
 obtain ⟨tn,htn⟩:∃ b,b=s.torn:=⟨_,rfl⟩
 obtain ⟨N0,hN0⟩:∃ N,N=[wm.P 0,wm.P 1,wm.P 2,wm.P (3+i)]:=⟨_,rfl⟩
 have gV_den:∀ (N:Nums) (r n:Nat) (p:Num),N[r]?=some p→(gV r n 13).den N=some (gC p n):=fun N r n p hp=>by
  by_cases h0:n=0
  ·subst h0;simp [gV,gC,SV.den,one?]
  ·have hb:Nat.beq n 0=false:=by cases h:Nat.beq n 0 with | false=>rfl | true=>exact absurd (Nat.eq_of_beq_eq_true h) h0
   simp only [gV,hb,cond_false,SV.den,hp,Num.cap,gC,if_neg h0,Nat.add_zero,Nat.sub_zero]
 have hhd:SV.denL N0 [.raw (.map (some wm.m)),sl,sa,.bool (.v tn)]=some [.map (some wm.m),gC (wm.P 1) s.l.length,gC (wm.P 2) s.all.length,.bool s.torn]:=by
  simp only [SV.denL,hsl,hsa,htn,gV_den N0 1 s.l.length (wm.P 1) (by rw [hN0];rfl),gV_den N0 2 s.all.length (wm.P 2) (by rw [hN0];rfl)]
  rfl
 have hrg:AllR (RgAt w N0) N0 [⟨true,[.raw (.map (some wm.m)),sl,sa,.bool (.v tn)],none⟩,⟨true,cl,none⟩,⟨true,ca,none⟩,⟨true,ec.svs,none⟩]:=by
  rw [hN0]
  refine ⟨rgAt_of (h.room 0 (by omega)) hd2 (by rw [←hN0];exact hhd) hd1,rgAt_of (h.room 1 (by omega)) l3 (by rw [hcl];exact rawL_denL l5 _) (by rw [l4];exact h.l.1),rgAt_of (h.room 2 (by omega)) a3 (by rw [hca];exact rawL_denL a5 _) (by rw [a4];exact h.a.1),rgAt_of (h.room (3+i) (by omega)) f9 (ec.den _) f8,trivial⟩
 have hpr:PairR N0 [⟨true,[.raw (.map (some wm.m)),sl,sa,.bool (.v tn)],none⟩,⟨true,cl,none⟩,⟨true,ca,none⟩,⟨true,ec.svs,none⟩]:=by
  rw [hN0]
  have q:=fun r r' h1 h2 h3=>h.sep r r' h1 h2 h3
  exact ⟨⟨sepR_of rfl rfl (q 0 1 (by omega) (by omega) (by omega)),sepR_of rfl rfl (q 0 2 (by omega) (by omega) (by omega)),sepR_of rfl rfl (q 0 (3+i) (by omega) (by omega) (by omega)),trivial⟩,⟨sepR_of rfl rfl (q 1 2 (by omega) (by omega) (by omega)),sepR_of rfl rfl (q 1 (3+i) (by omega) (by omega) (by omega)),trivial⟩,⟨sepR_of rfl rfl (q 2 (3+i) (by omega) (by omega) (by omega)),trivial⟩,trivial,trivial⟩
 have hown:∀ (r:Nat) (g:Rg) (p:Num),([⟨true,[.raw (.map (some wm.m)),sl,sa,.bool (.v tn)],none⟩,⟨true,cl,none⟩,⟨true,ca,none⟩,⟨true,ec.svs,none⟩]:List Rg)[r]?=some g→N0[r]?=some p→∃ r',(r'<3∨r'=3+i)∧p=wm.P r':=fun r g p hg hp=>by
  rw [hN0] at hp
  match r,hp with
  | 0,hp=>cases hp;exact ⟨0,by omega,rfl⟩
  | 1,hp=>cases hp;exact ⟨1,by omega,rfl⟩
  | 2,hp=>cases hp;exact ⟨2,by omega,rfl⟩
  | 3,hp=>cases hp;exact ⟨3+i,by omega,rfl⟩
  | r+4,hp=>simp at hp
 have hSt:Sat (mkE Tryz.prog Tryz.f9 Q w O im (fun k _=>k=wm.m) (MapK Tryz.prog placeT wm.m gm) N0 B9).toEnv N0 [⟨true,[.raw (.map (some wm.m)),sl,sa,.bool (.v tn)],none⟩,⟨true,cl,none⟩,⟨true,ca,none⟩,⟨true,ec.svs,none⟩] w:=by
  refine Sat.stdRR _ _ _ hrg hpr (fun k o e=>.inr (by subst e;exact m1.ob)) MapK.loc m1 (fun k o v hk=>?_) (fun r g p hg hp ho j hj=>?_) O (fun r g p hg hp ho j hj=>?_)
  ·rw [hime] at hk
   by_cases hd:O k o
   ·rw [outside_in hd] at hk;cases hk
   ·rw [outside_out hd] at hk;exact hk
  ·obtain ⟨r',h1,rfl⟩:=hown r g p hg hp
   have h2:inN (wm.P r') (wm.P r').b ((wm.P r').o+j):=⟨rfl,by omega,by omega⟩
   exact ⟨h.ne (by omega) h2,by rw [hime];exact outside_in (hO2 r' h1 _ _ h2)⟩
  ·obtain ⟨r',h1,rfl⟩:=hown r g p hg hp
   exact hO2 r' h1 _ _ ⟨rfl,by omega,by omega⟩
 obtain ⟨kl,hkl⟩:=placeKey hx.kw hx.a1 hx.a2 hx.a3
 have hkv:kvW x.key x.s.acc=.agg #[.int .u8 t.key,.int .u64 t.a1,.int .u8 t.a2,.int .u32 t.a3]:=by rw [e7,e5];rfl
 rw [hkv] at hkl
 have hgm:gm (.agg #[.int .u8 t.key,.int .u64 t.a1,.int .u8 t.a2,.int .u32 t.a3])=some (ptrN (wm.P (3+i))):=by
  rw [←hkv,←hek,←heb];exact m2 i e he
 have hP3:N0[3]?=some (wm.P (3+i)):=by rw [hN0];rfl
 have hP0:N0[0]?=some (wm.P 0):=by rw [hN0];rfl
 obtain ⟨nn',hnn'⟩:∃ z,z=e.nodes ||| 2 ^ x.node.toNat:=⟨_,rfl⟩
 obtain ⟨t2,ht2⟩:∃ z,z=2 ^ x.node.toNat:=⟨_,rfl⟩
 obtain ⟨qb,hqb⟩:∃ b,b=B (e.c.quoW x.key nn'):=⟨_,rfl⟩
 have hek':x.key=t.key:=e5.symm
 have hn64:x.node.toNat<64:=by have:=hc.1;have:=hx.nd;omega
 have hndn:t.node=((x.node.toNat:Nat):Int):=by rw [e1];exact (Int.toNat_of_nonneg hx.nd).symm
 have hp2:t2<2 ^ 64:=by rw [ht2];exact Nat.pow_lt_pow_right (by decide) hn64
 have hok:=ok.en e (List.mem_of_getElem? he)
 have hor:=bits_or ec.nodes t2 (by rw [f4];exact hok.nodes) hp2
 have hnl:nn'<2 ^ 64:=by rw [hnn',←ht2];exact Nat.or_lt_two_pow hok.nodes hp2
 rw [f4,ht2,←hnn',←f4,←ht2] at hor
 have hquo:=fun w1 (hi1:∀ k o v,im k o=some v→w1.cell? ⟨k,o,none⟩=some v)=>quorum_ok e.c.c.toNat nn' ec.op ec.np e.c.old.length e.c.new.length ec.oc ec.nc e.c.old.toArray e.c.new.toArray t.key w1 hok.co.1 hok.cn.1 hnl (SlR.inB f10 fun k o v hk=>hi1 _ _ _ (hMi _ _ _ hk)) (SlR.inB f11 fun k o v hk=>hi1 _ _ _ (hMi _ _ _ hk)) (by simpa using hok.co.2) (by simpa using hok.cn.2)
 have hecc:((e.c.c.toNat:Nat):Int)=ec.cc:=by rw [f1];exact Int.toNat_of_nonneg hok.c0
 have hqb2:B (quoC e.c.c.toNat e.c.old.toArray e.c.new.toArray t.key nn')=qb:=by rw [e5];exact hqb.symm
 rw [hecc,←f2,←f3,hqb2] at hquo
 obtain ⟨nd,cc,op,on,oc,np,nn,nc,ky,hs,s1,s2,s3,a1',a2',a3',⟨gk,gi,gs,gl,q1,q2,q3,q4,m1',m2',m3',m4',fa,fb,fc,fd⟩,ta⟩:=t
 have hkeep:∀ (nd':Nat) (ag':Bool) (sx:List VerP) (tb:Bool) key b,WP.pos ⟨s.seen.set i ⟨e.key,e.b,e.c,e.reg,nd',ag'⟩,sx,s.all,tb⟩ key b=none→s.pos key b=none:=fun nd' ag' sx tb key b hp=>by
  unfold WP.pos at hp ⊢
  rw [List.findIdx?_eq_none_iff] at hp ⊢
  intro y hy
  obtain ⟨j,hj⟩:=List.mem_iff_getElem?.1 hy
  by_cases e1:j=i
  ·subst e1
   rw [he] at hj;cases hj
   exact hp ⟨e.key,e.b,e.c,e.reg,nd',ag'⟩ (List.mem_iff_getElem?.2 ⟨j,by simp [hil]⟩)
  ·exact hp y (List.mem_iff_getElem?.2 ⟨j,by rw [List.getElem?_set_ne (by omega)];exact hj⟩)
 have hseen:∀ (nd':Nat) (ag':Bool) j y,(s.seen.set i ⟨e.key,e.b,e.c,e.reg,nd',ag'⟩)[j]?=some y→gm (kvW y.key y.b)=some (ptrN (wm.P (3+j))):=fun nd' ag' j y hj=>by
  by_cases e1:j=i
  ·subst e1
   simp [hil] at hj
   rw [←hj]
   exact m2 j e he
  ·rw [List.getElem?_set_ne (by omega)] at hj
   exact m2 j y hj
 have hput:∀ (pl pa:Num) j,(wm.put i pl pa (wm.P (3+i))).P (3+j)=wm.P (3+j):=fun pl pa j=>by
  simp only [WM.put]
  rw [if_neg (by omega),if_neg (by omega)]
  split
  ·rename_i e1;rw [e1]
  ·rfl
 have hec:∀ (M:Mem) (w':World) (N:Nums) (rg:List Rg) (ce:List SV) (im':Mem) (nd':Nat) (ag':Bool),(∀ k o v,Mo k o=some v→M k o=some v)→Sat (mkE Tryz.prog Tryz.f9 Q w O im' (fun k _=>k=wm.m) (MapK Tryz.prog placeT wm.m gm) N0 B9).toEnv N rg w'→N[3]?=some (wm.P (3+i))→rg[3]?=some ⟨true,ce,none⟩→SV.denL N ce=some (EntC.vals ⟨ec.cc,ec.op,ec.on,ec.oc,ec.np,ec.nn,ec.nc,ec.g,nd',ag'⟩)→EntAt M (wm.P (3+i)) ⟨e.key,e.b,e.c,e.reg,nd',ag'⟩ w':=fun M w' N rg ce im' nd' ag' hM hS q3 k3 kd=>by
  refine EntAt.of ⟨ec.cc,ec.op,ec.on,ec.oc,ec.np,ec.nn,ec.nc,ec.g,nd',ag'⟩ (f6.mono hM) (f7.mono hM) rfl rfl f8 (hasC_of hS k3 q3 kd)
 have finA:∀ (N:Nums) (w':World) (rg:List Rg) (ce:List SV) (c3:SV) (tb:Bool) (nd':Nat) (ag':Bool),Nums.le N0 N→Sat (mkE Tryz.prog Tryz.f9 Q w O im (fun k _=>k=wm.m) (MapK Tryz.prog placeT wm.m gm) N0 B9).toEnv N rg w'→rg[0]?=some ⟨true,[.raw (.map (some wm.m)),sl,sa,c3],none⟩→rg[1]?=some ⟨true,cl,none⟩→rg[2]?=some ⟨true,ca,none⟩ →
   rg[3]?=some ⟨true,ce,none⟩→SV.denL N ce=some (EntC.vals ⟨ec.cc,ec.op,ec.on,ec.oc,ec.np,ec.nn,ec.nc,ec.g,nd',ag'⟩)→c3.den N=some (.bool tb)→SawRet wm s ⟨s.seen.set i ⟨e.key,e.b,e.c,e.reg,nd',ag'⟩,s.l,s.all,tb⟩ Mo w (.returned (.tuple #[])) w':=fun N w' rg ce c3 tb nd' ag' hN hS k0 k1 k2 k3 kd hc3=>by
  have q0:=hN 0 _ (by rw [hN0];rfl:N0[0]?=some (wm.P 0))
  have q1:=hN 1 _ (by rw [hN0];rfl:N0[1]?=some (wm.P 1))
  have q2:=hN 2 _ (by rw [hN0];rfl:N0[2]?=some (wm.P 2))
  have q3:=hN 3 _ (by rw [hN0];rfl:N0[3]?=some (wm.P (3+i)))
  obtain ⟨Mo',c⟩:=saw_core h hS i s.seen.length (.inl ⟨hil,rfl⟩) hO 1 2 3 q0 q1 q2 q3 k0 k1 k2 k3 rfl rfl rfl rfl (by omega) (by omega) (by omega) (by omega) (by omega) (by omega)
  refine saw_end h c (by simp) (e':=⟨e.key,e.b,e.c,e.reg,nd',ag'⟩) (by simp [hil]) (fun j y e1 hj=>by rwa [List.getElem?_set_ne (by omega)] at hj) (hasC_of hS k0 q0 ?_) (.same l1 (fun j y hj=>by obtain ⟨vs,z1,z2⟩:=l2 j y hj;exact ⟨vs,z1,z2.mono c.old⟩) (hasC_of hS k1 q1 (by rw [hcl];exact rawL_denL l5 _)) h.l.1 h.l.2.1) (.same a1 (fun j y hj=>by obtain ⟨vs,z1,z2⟩:=a2 j y hj;exact ⟨vs,z1,z2.mono c.old⟩) (hasC_of hS k2 q2 (by rw [hca];exact rawL_denL a5 _)) h.a.1 h.a.2.1) (hec Mo' w' N rg ce im nd' ag' c.old hS q3 k3 kd) ⟨gm,hS.res,fun j y hj=>by rw [hput];exact hseen nd' ag' j y hj,fun key b hp=>m3 key b (hkeep nd' ag' _ tb key b hp)⟩
  simp only [SV.denL,hsl,hsa,gV_den N 1 s.l.length _ q1,gV_den N 2 s.all.length _ q2,hc3]
  rfl
 have finB:∀ (N:Nums) (w':World) (rg:List Rg) (ce:List SV) (c3:SV) (tb:Bool) (nd':Nat) (ag':Bool) (im':Mem) (rl:Nat) (newS:List SV) (newV:List Value),Nums.le N0 N→Sat (mkE Tryz.prog Tryz.f9 Q w O im' (fun k _=>k=wm.m) (MapK Tryz.prog placeT wm.m gm) N0 B9).toEnv N rg w'→3<rl→rg[0]?=some ⟨true,[.raw (.map (some wm.m)),.osl rl 0 (s.l.length+1) 13 none,sa,c3],none⟩→rg[rl]?=some ⟨true,cl++newS,none⟩→rg[2]?=some ⟨true,ca,none⟩ →
   rg[3]?=some ⟨true,ce,none⟩→SV.denL N ce=some (EntC.vals ⟨ec.cc,ec.op,ec.on,ec.oc,ec.np,ec.nn,ec.nc,ec.g,nd',ag'⟩)→c3.den N=some (.bool tb)→SV.denL N newS=some newV→newV.length=13→(∀ M:Mem,(∀ k o v,Mo k o=some v→M k o=some v)→(∀ k o v,w.heap.size≤k→im' k o=some v→M k o=some v)→RepL M (VerP.toD ⟨x.key,x.s.acc,e.reg,x.at'⟩) newV) →
   SawRet wm s ⟨s.seen.set i ⟨e.key,e.b,e.c,e.reg,nd',ag'⟩,s.l++[⟨x.key,x.s.acc,e.reg,x.at'⟩],s.all,tb⟩ Mo w (.returned (.tuple #[])) w':=fun N w' rg ce c3 tb nd' ag' im' rl newS newV hN hS hrl k0 k1 k2 k3 kd hc3 hnd hnl hrep=>by
  have q0:=hN 0 _ (by rw [hN0];rfl:N0[0]?=some (wm.P 0))
  have q2:=hN 2 _ (by rw [hN0];rfl:N0[2]?=some (wm.P 2))
  have q3:=hN 3 _ (by rw [hN0];rfl:N0[3]?=some (wm.P (3+i)))
  obtain ⟨pl,q1⟩:∃ p,N[rl]?=some p:=⟨_,List.getElem?_eq_getElem (by rw [hS.len];exact (List.getElem?_eq_some_iff.1 k1).1)⟩
  obtain ⟨Mo',c⟩:=saw_core h hS i s.seen.length (.inl ⟨hil,rfl⟩) hO rl 2 3 q0 q1 q2 q3 k0 k1 k2 k3 rfl rfl rfl rfl (by omega) (by omega) (by omega) (by omega) (by omega) (by omega)
  have hcd:SV.denL N (cl++newS)=some (vl.flatten++newV):=denL_append (by rw [hcl];exact rawL_denL l5 _) hnd
  have hext:=hS.ext rl _ pl k1 q1 rfl
  have hsz:(cl++newS).length=s.l.length*13+13:=by
   obtain ⟨z1,_⟩:=SV.denL_get _ hcd
   rw [←z1,List.length_append,l4,hnl]
  refine saw_end h c (by simp) (e':=⟨e.key,e.b,e.c,e.reg,nd',ag'⟩) (by simp [hil]) (fun j y e1 hj=>by rwa [List.getElem?_set_ne (by omega)] at hj) (hasC_of hS k0 q0 ?_) (.snoc l1 (fun j y hj=>by obtain ⟨vs,z1,z2⟩:=l2 j y hj;exact ⟨vs,z1,z2.mono c.old⟩) (hrep Mo' c.old fun k o v hk hv=>c.put k o v hk (fun hd=>by rw [c.imn k o hk hd] at hv;cases hv) (hS.imm k o v hv)) (hasC_of hS k1 q1 hcd) (by simp only at hext;omega)) (.same a1 (fun j y hj=>by obtain ⟨vs,z1,z2⟩:=a2 j y hj;exact ⟨vs,z1,z2.mono c.old⟩) (hasC_of hS k2 q2 (by rw [hca];exact rawL_denL a5 _)) h.a.1 h.a.2.1) (hec Mo' w' N rg ce im' nd' ag' c.old hS q3 k3 kd) ⟨gm,hS.res,fun j y hj=>by rw [hput];exact hseen nd' ag' j y hj,fun key b hp=>m3 key b (hkeep nd' ag' _ tb key b hp)⟩
  have hgc:gC pl (s.l++[(⟨x.key,x.s.acc,e.reg,x.at'⟩:VerP)]).length=.slice (some ⟨pl.b,pl.o,none⟩) (s.l.length+1) (pl.x / 13):=by simp [gC]
  simp only [SV.denL,SV.den,q1,Num.cap,hsa,gV_den N 2 s.all.length _ q2,hc3,hgc]
  rfl
 have hcR:=TelC.Of.conf ht
 obtain ⟨sm1,hsm1⟩:∃ b,b=B (e.c=x.c):=⟨_,rfl⟩
 obtain ⟨sm2,hsm2⟩:∃ b,b=B (e.reg=x.s.reg):=⟨_,rfl⟩
 obtain ⟨ecc,eop,eon,eoc,enp,enn,enc,⟨hk,hi,hs',hl',r1,r2,r3,r4,o1,o2,o3,o4,j1,j2,j3,j4⟩,ens,eag⟩:=ec
 refine X.beginRR (ss:=sawS (.own 0 0) ⟨nd,cc,op,on,oc,np,nn,nc,ky,hs,s1,s2,s3,a1',a2',a3',⟨gk,gi,gs,gl,q1,q2,q3,q4,m1',m2',m3',m4',fa,fb,fc,fd⟩,ta⟩) O (fun k _=>k=wm.m) (MapK Tryz.prog placeT wm.m gm) im Tryz.func9 rfl B9_ok rfl (by simp only [sawS,SV.denL,SV.den,hP0];rfl) hSt ?_
 have hmay:=fun w1 (hi1:∀ k o v,im k o=some v→w1.cell? ⟨k,o,none⟩=some v)=>cmay_ok x.c.c.toNat op np x.c.old.length x.c.new.length oc nc x.c.old.toArray x.c.new.toArray w1 (by have:=hx.co.1;omega) (by have:=hx.cn.1;omega) (SlR.inB ht.o fun k o v hk=>hi1 _ _ _ (hMi _ _ _ hk)) (SlR.inB ht.n fun k o v hk=>hi1 _ _ _ (hMi _ _ _ hk)) (by simpa using hx.co.2) (by simpa using hx.cn.2)
 obtain ⟨y1,y2,y3,y4,y5⟩:=hc
 rw [show (mayC x.c.c.toNat x.c.old.toArray x.c.new.toArray)=x.c.mayW from rfl,B_pos y5,hcc,←e3,←e4] at hmay
 simp only at e1 e5 e6 e7 e8 hgm
 have hnone:¬(a1'=0∧a2'=0∧a3'=0):=fun ⟨z1,z2,z3⟩=>y4 (by rw [e7,z1,z2,z3])
 refine X.goX ([(33,.bool (.lit false)),(37,.bool (.lit true))]) ([]) T9_ok 400 _ rfl Tryz.results9 (fun pr pe fin hpr hpe hfin=>?_)
 conv=>cbv
 refine ⟨hpr _ (.of Tryz.call19 [.agg #[.int .u64 a1',.int .u8 a2',.int .u32 a3']] (.bool false) (fun _=>rfl) (fun _=>rfl) fun _ w1 _=>by have:=none_ok a1' a2' a3' w1;rwa [decide_eq_false hnone] at this),hpr _ (.of Tryz.call20 [.agg _] (.bool true) (fun _=>rfl) (fun _=>rfl) fun _ w1 hi1=>hmay w1 hi1),hfin _ _ ?_⟩
 clear hpr hpe hfin
 refine X.cond rfl (fun hT=>?_) (fun hF=>?_)
 ·exfalso
  simp only [SB.T,SB.F,SI.den] at hT
  rw [e6,y3] at hT
  simp at hT
  omega
 clear hF
 refine X.goX ([(97,.bool (.v sm1)),(106,.bool (.v sm2))]) ([(50,⟨fun _=>.tup [.own 3 0,.bool (.lit true)],[],[]⟩)]) T9_ok 400 _ rfl Tryz.results9 (fun pr pe fin hpr hpe hfin=>?_)
 conv=>cbv
 refine ⟨hpe _ _ _ _ _ (EffOk.lookupK placeLaw Tryz.underlying58 (fun w=>Tryz.zeroValue65 w) rfl rfl (fun _=>rfl) hkl (fun _ h=>h) (fun N hN=>?_) ?_),hpr _ (.of Tryz.call23 [.agg _,.agg _] (.bool sm1) (fun _=>rfl) (fun _=>rfl) fun _ w1 hi1=>?_),hpr _ (.of Tryz.call24 [.agg _,.agg _] (.bool sm2) (fun _=>rfl) (fun _=>rfl) fun _ w1 hi1=>?_),hfin _ _ ?_⟩
 ·have q3:=hN 3 _ hP3
  show _=some ((gm (.agg #[.int .u8 ky,.int .u64 a1',.int .u8 a2',.int .u32 a3'])).getD (.pointer none))
  rw [hgm]
  simp only [SV.den,q3,Option.getD_some,ptrN,Nat.add_zero]
 ·show true=(gm (.agg #[.int .u8 ky,.int .u64 a1',.int .u8 a2',.int .u32 a3'])).isSome
  rw [hgm];rfl
 ·rw [hsm1]
  exact confSame_ok e.c x.c _ _ w1 (f6.mono fun k o v hk=>hi1 _ _ _ (hMi _ _ _ hk)) (hcR.mono fun k o v hk=>hi1 _ _ _ (hMi _ _ _ hk))
 ·rw [hsm2]
  exact regSame_ok e.reg x.s.reg _ _ w1 (f7.mono fun k o v hk=>hi1 _ _ _ (hMi _ _ _ hk)) (ht.g.mono fun k o v hk=>hi1 _ _ _ (hMi _ _ _ hk))
 clear hpr hpe hfin
 have hsame:B (¬(e.c=x.c∧e.reg=x.s.reg))=!(sm1&&sm2):=by
  rw [hsm1,hsm2]
  by_cases z1:e.c=x.c<;>by_cases z2:e.reg=x.s.reg<;>simp [z1,z2,B_pos,B_neg]
 refine X.cond rfl (fun hT=>?_) (fun hF=>?_)
 ·simp only [SB.T,SB.F,SI.den] at hT
  have htn':(s.torn || B (¬(e.c=x.c∧e.reg=x.s.reg)))=true:=by
   rw [hsame]
   rcases hT with z | z<;>simp [z]
  refine X.go T9_ok 400 _ rfl Tryz.results9 ?_
  conv=>arg 2;cbv
  refine X.cond rfl (fun hAg=>?_) (fun hAg=>?_)
  ·simp only [SB.T] at hAg
   subst hAg
   refine X.go T9_ok 400 _ rfl Tryz.results9 ?_
   conv=>arg 2;cbv
   refine X.done T9_ok rfl (fun N w' v hN hS hv=>?_)
   simp only [resV,SV.den,SV.denL,Option.some.injEq] at hv
   rw [hQ,←hv]
   have:=finA N w' _ _ _ true e.nodes e.agreed hN hS rfl rfl rfl rfl (by rw [←f4,←f5];rfl) rfl
   unfold WP.told
   rw [if_pos (by rw [←f5]),htn']
   rwa [show s.seen.set i ⟨e.key,e.b,e.c,e.reg,e.nodes,e.agreed⟩=s.seen from by
    obtain ⟨z1,z2⟩:=List.getElem?_eq_some_iff.1 he
    rw [←z2];exact List.set_getElem_self z1] at this
  ·simp only [SB.F] at hAg
   subst hAg
   refine X.goX ([(121,.int .u64 (.nat t2)),(122,.int .u64 (.nat nn')),(134,.bool (.v qb))]) ([]) T9_ok 400 _ rfl Tryz.results9 (fun pr pe fin hpr hpe hfin=>?_)
   conv=>cbv
   refine ⟨hpr _ (by rw [ht2];exact vk_shl1 rfl rfl rfl rfl (fun _=>hndn) hn64),hpr _ (vk_bin rfl rfl rfl fun _ N v hv=>by rw [←hv];simp only [SV.den,bitsS_den,SI.den,hor]),hpr _ (.of Tryz.call25 [.agg _,.int .u8 ky,.int .u64 nn'] (.bool qb) (fun _=>rfl) (fun _=>rfl) fun _ w1 hi1=>hquo w1 hi1),hfin _ _ ?_⟩
   clear hpr hpe hfin
   refine X.cond rfl (fun hQu=>?_) (fun hQu=>?_)
   ·simp only [SB.T] at hQu
    subst hQu
    refine X.go T9_ok 400 _ rfl Tryz.results9 ?_
    conv=>arg 2;cbv
    refine X.goH [] [] T9_ok (.q 0 [1,2,3,4,5,6,7,8,9,10,11,12,13,14,15,16] (.q 1 [0,5,6,7,8,9,10,11,12,13,14,15] (.q 2 [0,1,5,6,7,8,9,10,11,12,13,14,15] (.q 3 [0,1,2,5,6,7,8,9,10,11,12,13,14,15] (.q 5 [0,1,2,3,4,6,7,8,9,10,11,12,13] (.q 6 [0,1,2,3,4,5,8,9,10,11,12,13] (.q 8 [0,1,2,3,4,5,6,7,13] (.q 9 [0,1,2,3,4,5,6,7,8,13] (.q 10 [0,1,2,3,4,5,6,7,8,9,13] (.q 13 [0,1,2,3,4,5,6,7,8,9,10,11,12] (.q 4 [0,1,2,3,5,6,7,8,9,10,11,12,13,14,15] (.q 7 [0,1,2,3,4,5,6,8,9,10,11,12,13] (.one 11 (.one 12 (.q 14 [0,1,2,3,4,5,6,7,8,9,10,11,12,13] (.one 15 (.one 16 (.q 17 [0,1,2,3,4,5,6,7,8,9,10,11,12,13,14,15,16] (.q 18 [0,1,2,3,4,5,6,7,8,9,10,11,12,13,14,15,16,17] (.one 19 (.nil))))))))))))))))))))) 157 12 [(16,[1]),(19,[0])] rfl (by kernel_rfl) (by kernel_rfl) (fun pr pe fin H hpr hpe hfin hH=>?_)
    conv=>cbv
    refine hH _ _ ⟨_,_,_,_,_,rfl,rfl,rfl,rfl,Tryz.call22,fun N w1 args hN hS ha=>?_⟩
    obtain rfl:args=[.agg (RegS.vals ⟨hk,hi,hs',hl',r1,r2,r3,r4,o1,o2,o3,o4,j1,j2,j3,j4⟩).toArray]:=(Option.some.inj ha).symm
    refine (regClone_ok e.reg _ Mo w1 (fun k o v hk=>hS.imm _ _ _ (hMi _ _ _ hk)) f7 hok.reg).mono fun e2 w2 ⟨⟨vb,he2,hmem⟩,hch⟩=>?_
    obtain ⟨g2,rfl⟩:=RegS.of (hmem (fun k o=>w2.cell? ⟨k,o,none⟩) (fun k o v hk=>(hS.after0 hch).imm _ _ _ (hMi _ _ _ hk)) (fun k o v _ h=>h))
    obtain ⟨gk2,gi2,gs2,gl2,u1,u2,u3,u4,v1,v2,v3,v4,w1',w2',w3',w4'⟩:=g2
    have hws:w.heap.size≤w1.heap.size:=hS.chg.size
    have hin:∀ k o v,w1.heap.size≤k→w2.cell? ⟨k,o,none⟩=some v→imNew im w1 w2 k o=some v:=fun k o v hk hc=>imNew_new (fun k o v h=>(hS.after0 hch).imm _ _ _ h) hk hc
    obtain ⟨nl1,hnl1⟩:∃ z,z=s.l.length+1:=⟨_,rfl⟩
    obtain ⟨c2,hc2⟩:∃ c,c=cl++[.int .u8 (.v ky),.int .u64 (.v a1'),.int .u8 (.v a2'),.int .u32 (.v a3'),.int .u8 (.v gk2),.int .u64 (.v gi2),.int .i64 (.v gs2),.slv u1 v1 w1',.slv u2 v2 w2',.slv u3 v3 w3',.int .u64 (.v gl2),.slv u4 v4 w4',.int .i64 (.v ta)]:=⟨_,rfl⟩
    refine ⟨_,he2,mkE Tryz.prog Tryz.f9 Q w O (imNew im w1 w2) (fun k _=>k=wm.m) (MapK Tryz.prog placeT wm.m gm) N0 B9,.agg (RegS.svs ⟨gk2,gi2,gs2,gl2,u1,u2,u3,u4,v1,v2,v3,v4,w1',w2',w3',w4'⟩),_,[],[(154,⟨fun rg=>.osl rg.length 0 nl1 13 none,[(1,⟨false,[],none⟩)],[⟨true,c2,none⟩]⟩)],rfl,rfl,rfl,rfl,fun k o v h=>imNew_old h,hN,Sat.newMem hS (hS.after0 hch),rfl,rfl,fun pr pe fin hpr hpe hfin=>?_⟩
    have hrep:∀ M:Mem,(∀ k o v,Mo k o=some v→M k o=some v)→(∀ k o v,w.heap.size≤k→imNew im w1 w2 k o=some v→M k o=some v)→RepL M (VerP.toD ⟨x.key,x.s.acc,e.reg,x.at'⟩) (.int .u8 ky::.int .u64 a1'::.int .u8 a2'::.int .u32 a3'::(RegS.vals ⟨gk2,gi2,gs2,gl2,u1,u2,u3,u4,v1,v2,v3,v4,w1',w2',w3',w4'⟩++[.int .i64 ta])):=fun M h1 h2=>by
     have:=VerP.shut (x:=⟨ky,⟨a1',a2',a3'⟩,e.reg,ta⟩) (hmem M h1 fun k o v hk hc=>h2 k o v (Nat.le_trans hws hk) (hin k o v hk hc))
     rw [e7,←e5,←e8]
     exact this
    clear he2 hch ha hS hmem hin
    conv=>cbv
    refine ⟨rfl,hpe _ _ _ _ _ (EffOk.appG (te:=ti49) (r:=1) (n:=s.l.length) (m:=1) (cs:=cl) (new:=[.int .u8 (.v ky),.int .u64 (.v a1'),.int .u8 (.v a2'),.int .u32 (.v a3'),.int .u8 (.v gk2),.int .u64 (.v gi2),.int .i64 (.v gs2),.slv u1 v1 w1',.slv u2 v2 w2',.slv u3 v3 w3',.int .u64 (.v gl2),.slv u4 v4 w4',.int .i64 (.v ta)]) T9_ok rfl hsl rfl rfl rfl rfl rfl (by rw [hcl,rawL_len];exact l4) (by decide) (appSrc_row (g:=⟨true,[.int .u8 (.v ky),.int .u64 (.v a1'),.int .u8 (.v a2'),.int .u32 (.v a3'),.int .u8 (.v gk2),.int .u64 (.v gi2),.int .i64 (.v gs2),.slv u1 v1 w1',.slv u2 v2 w2',.slv u3 v3 w3',.int .u64 (.v gl2),.slv u4 v4 w4',.int .i64 (.v ta)],none⟩) rfl rfl rfl rfl) (appOk_ok (by decide) rfl rfl rfl (by show (2*(s.l.length+1)+256)*_≤_;simp only [ti49];have:=ok.l;omega) (by have:=ok.l;omega)) hnl1 hc2),rfl,hfin _ ?_⟩
    clear hpr hpe hfin hH
    subst hc2 hnl1
    refine X.over T9_ok rfl (fun N w' v hN hS hv=>?_)
    simp only [resV,SV.den,SV.denL,Option.some.injEq] at hv
    rw [hQ,←hv]
    have:=finB N w' _ _ _ true nn' true (imNew im w1 w2) 8 _ _ hN hS (by omega) rfl rfl rfl rfl rfl rfl rfl rfl hrep
    unfold WP.told
    rw [if_neg (by rw [←f5];simp),htn',←hnn',if_pos (B_iff.1 hqb.symm)]
    exact this
   ·simp only [SB.F] at hQu
    subst hQu
    refine X.go T9_ok 400 _ rfl Tryz.results9 ?_
    conv=>arg 2;cbv
    refine X.over T9_ok rfl (fun N w' v hN hS hv=>?_)
    simp only [resV,SV.den,SV.denL,Option.some.injEq] at hv
    rw [hQ,←hv]
    have:=finA N w' _ _ _ true nn' false hN hS rfl rfl rfl rfl rfl rfl
    unfold WP.told
    rw [if_neg (by rw [←f5];simp),htn',←hnn',if_neg (fun hz=>by rw [B_pos hz] at hqb;cases hqb)]
    exact this
 ·simp only [SB.T,SB.F,SI.den] at hF
  have htn':(s.torn || B (¬(e.c=x.c∧e.reg=x.s.reg)))=tn:=by
   rw [hsame,htn]
   simp [hF.1,hF.2]
  refine X.go T9_ok 400 _ rfl Tryz.results9 ?_
  conv=>arg 2;cbv
  refine X.cond rfl (fun hAg=>?_) (fun hAg=>?_)
  ·simp only [SB.T] at hAg
   subst hAg
   refine X.go T9_ok 400 _ rfl Tryz.results9 ?_
   conv=>arg 2;cbv
   refine X.done T9_ok rfl (fun N w' v hN hS hv=>?_)
   simp only [resV,SV.den,SV.denL,Option.some.injEq] at hv
   rw [hQ,←hv]
   have:=finA N w' _ _ _ tn e.nodes e.agreed hN hS rfl rfl rfl rfl (by rw [←f4,←f5];rfl) rfl
   unfold WP.told
   rw [if_pos (by rw [←f5]),htn']
   rwa [show s.seen.set i ⟨e.key,e.b,e.c,e.reg,e.nodes,e.agreed⟩=s.seen from by
    obtain ⟨z1,z2⟩:=List.getElem?_eq_some_iff.1 he
    rw [←z2];exact List.set_getElem_self z1] at this
  ·simp only [SB.F] at hAg
   subst hAg
   refine X.goX ([(121,.int .u64 (.nat t2)),(122,.int .u64 (.nat nn')),(134,.bool (.v qb))]) ([]) T9_ok 400 _ rfl Tryz.results9 (fun pr pe fin hpr hpe hfin=>?_)
   conv=>cbv
   refine ⟨hpr _ (by rw [ht2];exact vk_shl1 rfl rfl rfl rfl (fun _=>hndn) hn64),hpr _ (vk_bin rfl rfl rfl fun _ N v hv=>by rw [←hv];simp only [SV.den,bitsS_den,SI.den,hor]),hpr _ (.of Tryz.call25 [.agg _,.int .u8 ky,.int .u64 nn'] (.bool qb) (fun _=>rfl) (fun _=>rfl) fun _ w1 hi1=>hquo w1 hi1),hfin _ _ ?_⟩
   clear hpr hpe hfin
   refine X.cond rfl (fun hQu=>?_) (fun hQu=>?_)
   ·simp only [SB.T] at hQu
    subst hQu
    refine X.go T9_ok 400 _ rfl Tryz.results9 ?_
    conv=>arg 2;cbv
    refine X.goH [] [] T9_ok (.q 0 [1,2,3,4,5,6,7,8,9,10,11,12,13,14,15,16] (.q 1 [0,5,6,7,8,9,10,11,12,13,14,15] (.q 2 [0,1,5,6,7,8,9,10,11,12,13,14,15] (.q 3 [0,1,2,5,6,7,8,9,10,11,12,13,14,15] (.q 5 [0,1,2,3,4,6,7,8,9,10,11,12,13] (.q 6 [0,1,2,3,4,5,8,9,10,11,12,13] (.q 8 [0,1,2,3,4,5,6,7,13] (.q 9 [0,1,2,3,4,5,6,7,8,13] (.q 10 [0,1,2,3,4,5,6,7,8,9,13] (.q 13 [0,1,2,3,4,5,6,7,8,9,10,11,12] (.q 4 [0,1,2,3,5,6,7,8,9,10,11,12,13,14,15] (.q 7 [0,1,2,3,4,5,6,8,9,10,11,12,13] (.one 11 (.one 12 (.q 14 [0,1,2,3,4,5,6,7,8,9,10,11,12,13] (.one 15 (.one 16 (.q 17 [0,1,2,3,4,5,6,7,8,9,10,11,12,13,14,15,16] (.q 18 [0,1,2,3,4,5,6,7,8,9,10,11,12,13,14,15,16,17] (.one 19 (.nil))))))))))))))))))))) 157 12 [(16,[1]),(19,[0])] rfl (by kernel_rfl) (by kernel_rfl) (fun pr pe fin H hpr hpe hfin hH=>?_)
    conv=>cbv
    refine hH _ _ ⟨_,_,_,_,_,rfl,rfl,rfl,rfl,Tryz.call22,fun N w1 args hN hS ha=>?_⟩
    obtain rfl:args=[.agg (RegS.vals ⟨hk,hi,hs',hl',r1,r2,r3,r4,o1,o2,o3,o4,j1,j2,j3,j4⟩).toArray]:=(Option.some.inj ha).symm
    refine (regClone_ok e.reg _ Mo w1 (fun k o v hk=>hS.imm _ _ _ (hMi _ _ _ hk)) f7 hok.reg).mono fun e2 w2 ⟨⟨vb,he2,hmem⟩,hch⟩=>?_
    obtain ⟨g2,rfl⟩:=RegS.of (hmem (fun k o=>w2.cell? ⟨k,o,none⟩) (fun k o v hk=>(hS.after0 hch).imm _ _ _ (hMi _ _ _ hk)) (fun k o v _ h=>h))
    obtain ⟨gk2,gi2,gs2,gl2,u1,u2,u3,u4,v1,v2,v3,v4,w1',w2',w3',w4'⟩:=g2
    have hws:w.heap.size≤w1.heap.size:=hS.chg.size
    have hin:∀ k o v,w1.heap.size≤k→w2.cell? ⟨k,o,none⟩=some v→imNew im w1 w2 k o=some v:=fun k o v hk hc=>imNew_new (fun k o v h=>(hS.after0 hch).imm _ _ _ h) hk hc
    obtain ⟨nl1,hnl1⟩:∃ z,z=s.l.length+1:=⟨_,rfl⟩
    obtain ⟨c2,hc2⟩:∃ c,c=cl++[.int .u8 (.v ky),.int .u64 (.v a1'),.int .u8 (.v a2'),.int .u32 (.v a3'),.int .u8 (.v gk2),.int .u64 (.v gi2),.int .i64 (.v gs2),.slv u1 v1 w1',.slv u2 v2 w2',.slv u3 v3 w3',.int .u64 (.v gl2),.slv u4 v4 w4',.int .i64 (.v ta)]:=⟨_,rfl⟩
    refine ⟨_,he2,mkE Tryz.prog Tryz.f9 Q w O (imNew im w1 w2) (fun k _=>k=wm.m) (MapK Tryz.prog placeT wm.m gm) N0 B9,.agg (RegS.svs ⟨gk2,gi2,gs2,gl2,u1,u2,u3,u4,v1,v2,v3,v4,w1',w2',w3',w4'⟩),_,[],[(154,⟨fun rg=>.osl rg.length 0 nl1 13 none,[(1,⟨false,[],none⟩)],[⟨true,c2,none⟩]⟩)],rfl,rfl,rfl,rfl,fun k o v h=>imNew_old h,hN,Sat.newMem hS (hS.after0 hch),rfl,rfl,fun pr pe fin hpr hpe hfin=>?_⟩
    have hrep:∀ M:Mem,(∀ k o v,Mo k o=some v→M k o=some v)→(∀ k o v,w.heap.size≤k→imNew im w1 w2 k o=some v→M k o=some v)→RepL M (VerP.toD ⟨x.key,x.s.acc,e.reg,x.at'⟩) (.int .u8 ky::.int .u64 a1'::.int .u8 a2'::.int .u32 a3'::(RegS.vals ⟨gk2,gi2,gs2,gl2,u1,u2,u3,u4,v1,v2,v3,v4,w1',w2',w3',w4'⟩++[.int .i64 ta])):=fun M h1 h2=>by
     have:=VerP.shut (x:=⟨ky,⟨a1',a2',a3'⟩,e.reg,ta⟩) (hmem M h1 fun k o v hk hc=>h2 k o v (Nat.le_trans hws hk) (hin k o v hk hc))
     rw [e7,←e5,←e8]
     exact this
    clear he2 hch ha hS hmem hin
    conv=>cbv
    refine ⟨rfl,hpe _ _ _ _ _ (EffOk.appG (te:=ti49) (r:=1) (n:=s.l.length) (m:=1) (cs:=cl) (new:=[.int .u8 (.v ky),.int .u64 (.v a1'),.int .u8 (.v a2'),.int .u32 (.v a3'),.int .u8 (.v gk2),.int .u64 (.v gi2),.int .i64 (.v gs2),.slv u1 v1 w1',.slv u2 v2 w2',.slv u3 v3 w3',.int .u64 (.v gl2),.slv u4 v4 w4',.int .i64 (.v ta)]) T9_ok rfl hsl rfl rfl rfl rfl rfl (by rw [hcl,rawL_len];exact l4) (by decide) (appSrc_row (g:=⟨true,[.int .u8 (.v ky),.int .u64 (.v a1'),.int .u8 (.v a2'),.int .u32 (.v a3'),.int .u8 (.v gk2),.int .u64 (.v gi2),.int .i64 (.v gs2),.slv u1 v1 w1',.slv u2 v2 w2',.slv u3 v3 w3',.int .u64 (.v gl2),.slv u4 v4 w4',.int .i64 (.v ta)],none⟩) rfl rfl rfl rfl) (appOk_ok (by decide) rfl rfl rfl (by show (2*(s.l.length+1)+256)*_≤_;simp only [ti49];have:=ok.l;omega) (by have:=ok.l;omega)) hnl1 hc2),rfl,hfin _ ?_⟩
    clear hpr hpe hfin hH
    subst hc2 hnl1
    refine X.over T9_ok rfl (fun N w' v hN hS hv=>?_)
    simp only [resV,SV.den,SV.denL,Option.some.injEq] at hv
    rw [hQ,←hv]
    have:=finB N w' _ _ _ tn nn' true (imNew im w1 w2) 8 _ _ hN hS (by omega) rfl rfl rfl rfl rfl rfl rfl rfl hrep
    unfold WP.told
    rw [if_neg (by rw [←f5];simp),htn',←hnn',if_pos (B_iff.1 hqb.symm)]
    exact this
   ·simp only [SB.F] at hQu
    subst hQu
    refine X.go T9_ok 400 _ rfl Tryz.results9 ?_
    conv=>arg 2;cbv
    refine X.over T9_ok rfl (fun N w' v hN hS hv=>?_)
    simp only [resV,SV.den,SV.denL,Option.some.injEq] at hv
    rw [hQ,←hv]
    have:=finA N w' _ _ _ tn nn' false hN hS rfl rfl rfl rfl rfl rfl
    unfold WP.told
    rw [if_neg (by rw [←f5];simp),htn',←hnn',if_neg (fun hz=>by rw [B_pos hz] at hqb;cases hqb)]
    exact this
end Go.Proofs.YthpbefahaghbjaaGreat
