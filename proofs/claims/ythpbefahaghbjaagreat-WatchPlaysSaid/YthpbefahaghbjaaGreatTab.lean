import Derived.Test.YthpbefahaghbjaaGreatProg
import Derived.Test.YthpbefahaghbjaaGreatEC
open Go.Proofs.Tryz renaming prog→aac,f21→aaf,f22→aag,f26→aah,f28→aai,f44→aaj,f45→aak,f46→aal,f47→aam,f56→aan,f58→aao,f60→aap,f61→aaq,f62→aar,f63→aas,f77→aau,f78→aav,f79→aaw,f80→aax,f89→aay,f90→aaz,f92→aaA,f93→aaB,f100→aaC,f103→aaD,f104→aaE,f105→aaF,f106→aaG,f107→aaH,f111→aaI,f112→aaJ,f113→aaK,f114→aaL,f115→aaM,f116→aaN,f117→aaO,f118→aaP,f119→aaQ,f120→aaR,f121→aaS,f122→aaT,f124→aaU,f125→aaV,f126→aaW,f127→aaX,f128→aaY,f129→aaZ,f130→aa0,f131→aa1,f132→aa2,f133→aa3,f134→aa4,f135→aa5,f136→aa6,f137→aa7,f138→aa8,f139→aa9
open Go.Value renaming slice→aad,nilFunc→aae,pointer→aba,map→abb
namespace Go.Proofs.YthpbefahaghbjaaGreat
open Go.bU
theorem mixed:aac.follows .mixedOrders=true:=by kernel_rfl
def Mv:TI:=⟨false,1,8,[.int .i64 (.lit 0)],.int .i64,none⟩
theorem R3:TI.of aac 2=some Mv:=by kernel_rfl
def fg:TI:=⟨false,1,8,[.int .i64 (.lit 0)],.int .i64,none⟩
theorem fq:TI.of aac 3=some fg:=by kernel_rfl
def p_:TI:=⟨false,1,1,[.bool (.lit false)],.bool,none⟩
theorem qO:TI.of aac 4=some p_:=by kernel_rfl
def fo:TI:=⟨false,1,1,[.int .u8 (.lit 0)],.int .u8,none⟩
theorem gh:TI.of aac 5=some fo:=by kernel_rfl
def ti9:TI:=⟨false,1,16,[.raw (Value.string { data:=#[] })],.string,none⟩
theorem tk9:TI.of aac 9=some ti9:=by kernel_rfl
def Fb:TI:=⟨false,1,24,[.raw (aad none 0 0)],.slice 45,none⟩
theorem IL:TI.of aac 22=some Fb:=by kernel_rfl
def Dg:TI:=⟨false,1,8,[.raw (aba none)],.pointer,none⟩
theorem Fj:TI.of aac 25=some Dg:=by kernel_rfl
def pJ:TI:=⟨false,1,24,[.raw (aad none 0 0)],.slice 49,none⟩
theorem qN:TI.of aac 27=some pJ:=by kernel_rfl
def e_:TI:=⟨false,1,8,[.int .u64 (.lit 0)],.int .u64,none⟩
theorem fp:TI.of aac 29=some e_:=by kernel_rfl
def dY:TI:=⟨false,1,24,[.raw (aad none 0 0)],.slice 5,none⟩
theorem eb:TI.of aac 30=some dY:=by kernel_rfl
def qL:TI:=⟨true,3,56,[.int .u64 (.lit 0),.raw (aad none 0 0),.raw (aad none 0 0)],.struct [(0,1,false),(1,1,false),(2,1,false)],none⟩
theorem sr:TI.of aac 32=some qL:=by kernel_rfl
def Fc:TI:=⟨false,1,4,[.int .u32 (.lit 0)],.int .u32,none⟩
theorem IM:TI.of aac 33=some Fc:=by kernel_rfl
def qM:TI:=⟨true,3,16,[.int .u64 (.lit 0),.int .u8 (.lit 0),.int .u32 (.lit 0)],.struct [(0,1,false),(1,1,false),(2,1,false)],some [true,true,true]⟩
theorem su:TI.of aac 35=some qM:=by kernel_rfl
def yu:TI:=⟨false,1,24,[.raw (aad none 0 0)],.slice 2,none⟩
theorem Di:TI.of aac 36=some yu:=by kernel_rfl
def Fe:TI:=⟨false,1,24,[.raw (aad none 0 0)],.slice 89,none⟩
theorem IP:TI.of aac 37=some Fe:=by kernel_rfl
def Fg:TI:=⟨false,1,24,[.raw (aad none 0 0)],.slice 96,none⟩
theorem IQ:TI.of aac 38=some Fg:=by kernel_rfl
def Fh:TI:=⟨false,1,24,[.raw (aad none 0 0)],.slice 99,none⟩
theorem IR:TI.of aac 39=some Fh:=by kernel_rfl
def tJ:TI:=⟨true,8,128,[.int .u8 (.lit 0),.int .u64 (.lit 0),.int .i64 (.lit 0),.raw (aad none 0 0),.raw (aad none 0 0),.raw (aad none 0 0),.int .u64 (.lit 0),.raw (aad none 0 0)],.struct [(0,1,false),(1,1,false),(2,1,false),(3,1,false),(4,1,false),(5,1,false),(6,1,false),(7,1,false)],none⟩
theorem yx:TI.of aac 41=some tJ:=by kernel_rfl
def yv:TI:=⟨true,15,168,[.bool (.lit false),.int .u64 (.lit 0),.int .u8 (.lit 0),.int .u32 (.lit 0),.int .u64 (.lit 0),.int .u8 (.lit 0),.int .u32 (.lit 0),.int .u8 (.lit 0),.int .u64 (.lit 0),.int .i64 (.lit 0),.raw (aad none 0 0),.raw (aad none 0 0),.raw (aad none 0 0),.int .u64 (.lit 0),.raw (aad none 0 0)],.struct [(0,1,false),(1,3,true),(4,3,true),(7,8,true)],none⟩
theorem Bc:TI.of aac 43=some yv:=by kernel_rfl
def A9:TI:=⟨true,21,248,[.int .u8 (.lit 0),.int .u64 (.lit 0),.raw (aad none 0 0),.raw (aad none 0 0),.int .u8 (.lit 0),.bool (.lit false),.int .u64 (.lit 0),.int .u8 (.lit 0),.int .u32 (.lit 0),.int .u64 (.lit 0),.int .u8 (.lit 0),.int .u32 (.lit 0),.int .u8 (.lit 0),.int .u64 (.lit 0),.int .i64 (.lit 0),.raw (aad none 0 0),.raw (aad none 0 0),.raw (aad none 0 0),.int .u64 (.lit 0),.raw (aad none 0 0),.int .i64 (.lit 0)],.struct [(0,1,false),(1,3,true),(4,1,false),(5,15,true),(20,1,false)],none⟩
theorem Fk:TI.of aac 45=some A9:=by kernel_rfl
def fe:TI:=⟨true,13,160,[.int .u8 (.lit 0),.int .u64 (.lit 0),.int .u8 (.lit 0),.int .u32 (.lit 0),.int .u8 (.lit 0),.int .u64 (.lit 0),.int .i64 (.lit 0),.raw (aad none 0 0),.raw (aad none 0 0),.raw (aad none 0 0),.int .u64 (.lit 0),.raw (aad none 0 0),.int .i64 (.lit 0)],.struct [(0,1,false),(1,3,true),(4,8,true),(12,1,false)],none⟩
theorem oM:TI.of aac 49=some fe:=by kernel_rfl
def Ww:TI:=⟨false,1,8,[.raw (abb none)],.map 64 65,none⟩
theorem Z7:TI.of aac 58=some Ww:=by kernel_rfl
def IJ:TI:=⟨true,4,64,[.raw (abb none),.raw (aad none 0 0),.raw (aad none 0 0),.bool (.lit false)],.struct [(0,1,false),(1,1,false),(2,1,false),(3,1,false)],none⟩
theorem My:TI.of aac 60=some IJ:=by kernel_rfl
def Z1:TI:=⟨true,4,24,[.int .u8 (.lit 0),.int .u64 (.lit 0),.int .u8 (.lit 0),.int .u32 (.lit 0)],.struct [(0,1,false),(1,3,true)],some [true,true,true,true]⟩
theorem aeK:TI.of aac 64=some Z1:=by kernel_rfl
def Wx:TI:=⟨false,1,8,[.raw (aba none)],.pointer,none⟩
theorem Z8:TI.of aac 65=some Wx:=by kernel_rfl
def Z2:TI:=⟨true,13,200,[.int .u64 (.lit 0),.raw (aad none 0 0),.raw (aad none 0 0),.int .u8 (.lit 0),.int .u64 (.lit 0),.int .i64 (.lit 0),.raw (aad none 0 0),.raw (aad none 0 0),.raw (aad none 0 0),.int .u64 (.lit 0),.raw (aad none 0 0),.int .u64 (.lit 0),.bool (.lit false)],.struct [(0,3,true),(3,8,true),(11,1,false),(12,1,false)],none⟩
theorem aeL:TI.of aac 70=some Z2:=by kernel_rfl
def Wy:TI:=⟨false,1,8,[.raw (aae)],.other,none⟩
theorem Z9:TI.of aac 76=some Wy:=by kernel_rfl
def Z3:TI:=⟨false,1,8,[.raw (aae)],.other,none⟩
theorem aeM:TI.of aac 79=some Z3:=by kernel_rfl
def Wz:TI:=⟨false,1,8,[.int .i64 (.lit 0)],.int .i64,none⟩
theorem Z_:TI.of aac 85=some Wz:=by kernel_rfl
def Fi:TI:=⟨true,4,48,[.int .i64 (.lit 0),.int .u64 (.lit 0),.int .i64 (.lit 0),.raw (aad none 0 0)],.struct [(0,1,false),(1,1,false),(2,1,false),(3,1,false)],none⟩
theorem IU:TI.of aac 87=some Fi:=by kernel_rfl
def yw:TI:=⟨true,6,64,[.int .u8 (.lit 0),.int .u64 (.lit 0),.int .i64 (.lit 0),.int .u64 (.lit 0),.int .i64 (.lit 0),.raw (aad none 0 0)],.struct [(0,1,false),(1,1,false),(2,4,true)],none⟩
theorem Fl:TI.of aac 89=some yw:=by kernel_rfl
def A_:TI:=⟨true,4,32,[.int .u64 (.lit 0),.int .u8 (.lit 0),.int .i64 (.lit 0),.int .i64 (.lit 0)],.struct [(0,1,false),(1,1,false),(2,1,false),(3,1,false)],some [true,true,true,true]⟩
theorem IV:TI.of aac 96=some A_:=by kernel_rfl
def Ba:TI:=⟨true,3,24,[.int .u8 (.lit 0),.int .u64 (.lit 0),.int .u64 (.lit 0)],.struct [(0,1,false),(1,1,false),(2,1,false)],some [true,true,true]⟩
theorem IW:TI.of aac 99=some Ba:=by kernel_rfl
def RW:TI:=⟨false,1,8,[.raw (aae)],.other,none⟩
theorem Z4:TI.of aac 103=some RW:=by kernel_rfl
def Mt:TI:=⟨false,1,24,[.raw (aad none 0 0)],.slice 30,none⟩
theorem RZ:TI.of aac 108=some Mt:=by kernel_rfl
def xg:TI:=⟨false,1,8,[.int .u64 (.lit 0)],.int .u64,none⟩
theorem zt:TI.of aac 113=some xg:=by kernel_rfl
def Mu:TI:=⟨false,1,8,[.int .i64 (.lit 0)],.int .i64,none⟩
theorem R0:TI.of aac 121=some Mu:=by kernel_rfl
def Hc:TI:=⟨false,1,24,[.raw (aad none 0 0)],.slice 3,none⟩
theorem Mw:TI.of aac 129=some Hc:=by kernel_rfl
def gD:TI:=⟨false,1,24,[.raw (aad none 0 0)],.slice 148,none⟩
theorem gM:TI.of aac 135=some gD:=by kernel_rfl
def Hd:TI:=⟨false,1,8,[.int .u64 (.lit 0)],.int .u64,none⟩
theorem Mx:TI.of aac 140=some Hd:=by kernel_rfl
def xh:TI:=⟨false,1,8,[.raw (aba none)],.pointer,none⟩
theorem zu:TI.of aac 144=some xh:=by kernel_rfl
def dB:TI:=⟨true,2,16,[.int .u64 (.lit 0),.int .u8 (.lit 0)],.struct [(0,1,false),(1,1,false)],some [true,true]⟩
theorem fY:TI.of aac 148=some dB:=by kernel_rfl
def RX:TI:=⟨false,1,8,[.raw (aae)],.other,none⟩
theorem Z5:TI.of aac 152=some RX:=by kernel_rfl
def RY:TI:=⟨true,256,256,nu 256 ([.bool (.lit false)]),.array 256 4,none⟩
theorem Z6:TI.of aac 153=some RY:=by kernel_rfl
def ui:TI:=⟨false,1,8,[.raw (aae)],.other,none⟩
theorem xo:TI.of aac 155=some ui:=by kernel_rfl
def qs:List Nat->List Nat|a::b::t=>List.range' a (b-a)++qs t|_=>[]
def qr (l:List Nat):Option (List Nat):=some (qs l)
def B2:aH:=[]
def T5:aQ:=[(3,fg),(4,p_),(5,fo),(22,Fb),(25,Dg),(27,pJ),(32,qL),(43,yv),(45,A9),(49,fe)]
theorem iG:aq aac T5:=.cons fq <| .cons qO <| .cons gh <| .cons IL <| .cons Fj <| .cons qN <| .cons sr <| .cons Bc <| .cons Fk <| .cons oM <| .nil mixed
def B5:aH:=[(7,[(0,qr [1,26]),(1,qr [0,1,2,3,6,26]),(2,qr [0,2,6,26]),(3,qr [0,3,6,26]),(4,qr [0,4,6,26]),(6,qr [0,6,7,8,11,26]),(7,qr [0,7,11,26]),(8,qr [0,8,11,26]),(9,qr [0,9,11,26]),(11,qr [0,11,12,13,16,26]),(12,qr [0,12,16,26]),(13,qr [0,13,16,26]),(14,qr [0,14,16,26]),(16,qr [0,16,17,18,21,26]),(17,qr [0,17,21,26]),(18,qr [0,18,21,26]),(19,qr [0,19,21,26]),(21,qr [0,21,22,23]),(22,qr [0,22]),(23,qr [0,23]),(24,qr [0,24]),(5,qr [0,5,6,26]),(10,qr [0,10,11,26]),(15,qr [0,15,16,26]),(20,qr [0,20,21,26]),(25,none),(26,none)]),(10,[(0,some [2]),(2,qr [0,2]),(1,none),(3,none),(4,qr [0,4]),(5,qr [0,5]),(6,qr [0,6,8,12]),(8,qr [0,8,9,11]),(9,qr [0,9]),(10,qr [0,10]),(11,qr [0,11]),(7,none),(12,none),(13,none),(14,qr [0,14]),(15,qr [0,15]),(16,qr [0,16]),(17,qr [0,17,19,20]),(19,qr [0,19]),(18,none),(20,qr [0,20]),(21,qr [0,21]),(22,qr [0,22]),(23,qr [0,23,24,25,26,28]),(24,qr [0,24,26,28]),(26,qr [0,26,27,28]),(27,qr [0,27]),(25,none),(28,none),(29,none),(30,qr [0,30]),(31,qr [0,31])])]
theorem QW:aD B5 Tryz.f5.body=true:=by kernel_rfl
def T6:aQ:=[(3,fg),(5,fo),(22,Fb),(30,dY),(32,qL),(41,tJ),(43,yv),(45,A9)]
theorem nJ:aq aac T6:=.cons fq <| .cons gh <| .cons IL <| .cons eb <| .cons sr <| .cons yx <| .cons Bc <| .cons Fk <| .nil mixed
def B6:aH:=[]
theorem Xn:aD B6 Tryz.f6.body=true:=by kernel_rfl
def T7:aQ:=[(3,fg),(4,p_),(5,fo),(25,Dg),(27,pJ),(30,dY),(32,qL),(35,qM),(43,yv),(49,fe)]
theorem yz:aq aac T7:=.cons fq <| .cons qO <| .cons gh <| .cons Fj <| .cons qN <| .cons eb <| .cons sr <| .cons su <| .cons Bc <| .cons oM <| .nil mixed
def B7:aH:=[]
theorem Xo:aD B7 Tryz.f7.body=true:=by kernel_rfl
def T8:aQ:=[(58,Ww),(60,IJ),(65,Wx)]
theorem JL:aq aac T8:=.cons Z7 <| .cons My <| .cons Z8 <| .nil mixed
def B8:aH:=[]
theorem Xr:aD B8 Tryz.f8.body=true:=by kernel_rfl
def T9:aQ:=[(4,p_),(5,fo),(25,Dg),(27,pJ),(29,e_),(30,dY),(32,qL),(35,qM),(41,tJ),(43,yv),(49,fe),(58,Ww),(60,IJ),(64,Z1),(65,Wx),(70,Z2)]
theorem cI:aq aac T9:=.cons qO <| .cons gh <| .cons Fj <| .cons qN <| .cons fp <| .cons eb <| .cons sr <| .cons su <| .cons yx <| .cons Bc <| .cons oM <| .cons Z7 <| .cons My <| .cons aeK <| .cons Z8 <| .cons aeL <| .nil mixed
def B9:aH:=[(3,[(0,some [4]),(1,some [0,4]),(2,some [0,1,4]),(3,qr [0,3,4,5]),(4,none),(5,none),(6,qr [0,6]),(7,qr [0,7,8,9]),(8,qr [0,8,9,10]),(9,qr [0,9]),(10,qr [0,10])]),(5,[(0,qr [2,8,9,12]),(2,qr [0,2,5,7,9,11]),(5,qr [0,5,9,11]),(9,qr [0,9]),(1,qr [0,1,2,8,9,12]),(3,qr [0,3,5,7,9,11]),(6,qr [0,6,9,11]),(10,qr [0,10]),(4,none),(7,none),(8,qr [0,8,9,12]),(11,none),(12,qr [0,12]),(13,none),(14,qr [0,14])]),(6,[(0,qr [4,6]),(1,some [0,4,5]),(2,qr [0,2,4,6]),(5,qr [0,5]),(3,qr [0,3,4,6]),(4,none),(6,none)]),(7,[(0,qr [1,15]),(1,qr [0,1,5,14]),(2,qr [0,2,5,14]),(3,qr [0,3,5,14]),(5,qr [0,5,6,12]),(6,qr [0,6,8,12]),(8,qr [0,8,11,12]),(11,qr [0,11]),(4,qr [0,4,5,14]),(7,qr [0,7,8,12]),(9,none),(10,none),(12,qr [0,12]),(13,none),(14,none),(15,qr [0,15]),(16,qr [0,16]),(17,none)]),(8,[(0,some [4]),(1,some [0,4]),(2,some [0,1,4]),(3,qr [0,3,4,5]),(4,none),(5,none),(6,qr [0,6]),(7,qr [0,7]),(8,qr [0,8,12,14]),(9,qr [0,9,12,14]),(10,qr [0,10,12,14]),(12,qr [0,12]),(11,qr [0,11,12,14]),(13,none),(14,none),(15,qr [0,15]),(16,qr [0,16])]),(12,[(0,qr [4,9]),(1,qr [0,1,4,9]),(2,qr [0,2,4,9]),(4,qr [0,4,5,9]),(5,qr [0,5]),(6,qr [0,6]),(7,qr [0,7]),(3,qr [0,3,4,9]),(8,none),(9,none)]),(14,[(0,qr [1,17]),(1,qr [0,1,5,16]),(2,qr [0,2,5,16]),(3,qr [0,3,5,16]),(5,qr [0,5,6,14]),(6,qr [0,6,8,14]),(8,qr [0,8,13,14]),(9,qr [0,9,13,14]),(10,qr [0,10,13,14]),(13,qr [0,13]),(4,qr [0,4,5,16]),(7,qr [0,7,8,14]),(11,none),(12,none),(14,qr [0,14]),(15,none),(16,none),(17,qr [0,17]),(18,qr [0,18]),(19,none)])]
theorem Jn:aD B9 Tryz.f9.body=true:=by kernel_rfl
def T10:aQ:=[(25,Dg),(27,pJ),(49,fe),(60,IJ)]
theorem my:aq aac T10:=.cons Fj <| .cons qN <| .cons oM <| .cons My <| .nil mixed
def Xj:aH:=[]
theorem DE:aD Xj Tryz.f10.body=true:=by kernel_rfl
def T11:aQ:=[(3,fg),(4,p_),(5,fo),(27,pJ),(35,qM),(41,tJ),(49,fe)]
theorem j_:aq aac T11:=.cons fq <| .cons qO <| .cons gh <| .cons qN <| .cons su <| .cons yx <| .cons oM <| .nil mixed
def B11:aH:=[(6,[(0,qr [1,2,5,10]),(1,qr [0,1,5,10]),(2,qr [0,2,5,10]),(3,qr [0,3,5,10]),(5,qr [0,5,6,7]),(6,qr [0,6]),(7,qr [0,7]),(8,qr [0,8]),(4,qr [0,4,5,10]),(9,none),(10,qr [0,10]),(11,qr [0,11]),(12,qr [0,12,13,14,17,22]),(13,qr [0,13,17,22]),(14,qr [0,14,17,22]),(15,qr [0,15,17,22]),(17,qr [0,17,18,19]),(18,qr [0,18]),(19,qr [0,19]),(20,qr [0,20]),(16,qr [0,16,17,22]),(21,none),(22,qr [0,22]),(23,qr [0,23]),(24,qr [0,24]),(25,qr [0,25,26,27,30,35]),(26,qr [0,26,30,35]),(27,qr [0,27,30,35]),(28,qr [0,28,30,35]),(30,qr [0,30,31,32]),(31,qr [0,31]),(32,qr [0,32]),(33,qr [0,33]),(29,qr [0,29,30,35]),(34,none),(35,qr [0,35]),(36,qr [0,36]),(37,qr [0,37]),(38,qr [0,38,39,40,43,48]),(39,qr [0,39,43,48]),(40,qr [0,40,43,48]),(41,qr [0,41,43,48]),(43,qr [0,43,44,45]),(44,qr [0,44]),(45,qr [0,45]),(46,qr [0,46]),(42,qr [0,42,43,48]),(47,none),(48,none),(49,qr [0,49]),(50,qr [0,50])])]
theorem Se:aD B11 Tryz.f11.body=true:=by kernel_rfl
def T12:aQ:=[(5,fo),(25,Dg),(27,pJ),(49,fe),(76,Wy),(79,Z3)]
theorem mz:aq aac T12:=.cons gh <| .cons Fj <| .cons qN <| .cons oM <| .cons Z9 <| .cons aeM <| .nil mixed
def B12:aH:=[]
theorem Sn:aD B12 Tryz.f12.body=true:=by kernel_rfl
def T13:aQ:=[(4,p_),(25,Dg),(60,IJ)]
theorem Jx:aq aac T13:=.cons qO <| .cons Fj <| .cons My <| .nil mixed
def B13:aH:=[]
theorem Sx:aD B13 Tryz.f13.body=true:=by kernel_rfl
def T14:aQ:=[(3,fg),(4,p_),(5,fo),(22,Fb),(27,pJ),(29,e_),(32,qL),(35,qM),(41,tJ),(43,yv),(45,A9),(49,fe)]
theorem gR:aq aac T14:=.cons fq <| .cons qO <| .cons gh <| .cons IL <| .cons qN <| .cons fp <| .cons sr <| .cons su <| .cons yx <| .cons Bc <| .cons Fk <| .cons oM <| .nil mixed
def Xk:aH:=[(11,[(0,qr [1,6]),(1,qr [0,1,3,6]),(3,qr [0,3]),(4,qr [0,4]),(2,qr [0,2,3,6]),(5,none),(6,none),(7,qr [0,7]),(8,qr [0,8]),(9,qr [0,9,11,23]),(11,qr [0,11,13,23]),(13,qr [0,13,14,16,17,22]),(14,qr [0,14,17,22]),(15,qr [0,15,17,22]),(16,qr [0,16,17,22]),(17,qr [0,17,19,22]),(19,qr [0,19]),(20,qr [0,20]),(10,qr [0,10,11,23]),(12,qr [0,12,13,23]),(18,qr [0,18,19,22]),(21,none),(22,none),(23,none),(24,qr [0,24])])]
theorem Sy:aD Xk Tryz.f14.body=true:=by kernel_rfl
def T15:aQ:=[(25,Dg),(27,pJ),(49,fe),(60,IJ)]
theorem DV:aq aac T15:=.cons Fj <| .cons qN <| .cons oM <| .cons My <| .nil mixed
def B15:aH:=[]
theorem Sz:aD B15 Tryz.f15.body=true:=by kernel_rfl
def T16:aQ:=[(3,fg),(4,p_),(5,fo),(22,Fb),(27,pJ),(35,qM),(41,tJ),(43,yv),(45,A9),(49,fe)]
theorem nA:aq aac T16:=.cons fq <| .cons qO <| .cons gh <| .cons IL <| .cons qN <| .cons su <| .cons yx <| .cons Bc <| .cons Fk <| .cons oM <| .nil mixed
def B16:aH:=[(5,[(0,some [1]),(1,some [0]),(2,qr [0,2]),(3,none),(4,none),(5,qr [0,5]),(6,qr [0,6,7,18]),(7,qr [0,7,8,9,12,18]),(8,qr [0,8,12,18]),(9,qr [0,9,12,18]),(10,qr [0,10,12,18]),(12,qr [0,12,13,14]),(13,qr [0,13]),(14,qr [0,14]),(15,qr [0,15]),(16,qr [0,16]),(11,qr [0,11,12,18]),(17,none),(18,none),(19,qr [0,19]),(20,qr [0,20])]),(6,[(0,qr [1,25]),(1,qr [0,1,2,3,6,23]),(2,qr [0,2,6,23]),(3,qr [0,3,6,23]),(4,qr [0,4,6,23]),(6,qr [0,6,7,8,12,23]),(7,qr [0,7,12,23]),(8,qr [0,8,12,23]),(9,qr [0,9,12,23]),(10,qr [0,10,12,23]),(12,qr [0,12,13,14,18,23]),(13,qr [0,13,18,23]),(14,qr [0,14,18,23]),(15,qr [0,15,18,23]),(16,qr [0,16,18,23]),(18,qr [0,18,19,20]),(19,qr [0,19]),(20,qr [0,20]),(21,qr [0,21]),(5,qr [0,5,6,23]),(11,qr [0,11,12,23]),(17,qr [0,17,18,23]),(22,none),(23,qr [0,23]),(24,none),(25,none),(26,qr [0,26])])]
theorem SA:aD B16 Tryz.f16.body=true:=by kernel_rfl
def T17:aQ:=[(3,fg),(4,p_),(5,fo),(27,pJ),(35,qM),(49,fe)]
theorem fy:aq aac T17:=.cons fq <| .cons qO <| .cons gh <| .cons qN <| .cons su <| .cons oM <| .nil mixed
def NN:aH:=[(11,[(0,qr []),(1,some [0]),(2,qr [0,2]),(3,qr [0,3,4,5,8,13]),(4,qr [0,4,8,13]),(5,qr [0,5,8,13]),(6,qr [0,6,8,13]),(8,qr [0,8,9,10]),(9,qr [0,9]),(10,qr [0,10]),(11,qr [0,11]),(7,qr [0,7,8,13]),(12,none),(13,none),(14,qr [0,14])])]
theorem SC:aD NN Tryz.f17.body=true:=by kernel_rfl
def T18:aQ:=[(2,Mv),(3,fg),(36,yu),(37,Fe),(38,Fg),(39,Fh),(41,tJ),(87,Fi),(89,yw),(96,A_),(99,Ba)]
theorem kc:aq aac T18:=.cons R3 <| .cons fq <| .cons Di <| .cons IP <| .cons IQ <| .cons IR <| .cons yx <| .cons IU <| .cons Fl <| .cons IV <| .cons IW <| .nil mixed
def B18:aH:=[]
theorem SD:aD B18 Tryz.f18.body=true:=by kernel_rfl
def T19:aQ:=[(35,qM)]
theorem Jy:aq aac T19:=.cons su <| .nil mixed
def B19:aH:=[]
theorem SE:aD B19 Tryz.f19.body=true:=by kernel_rfl
def T20:aQ:=[(3,fg),(4,p_),(5,fo),(29,e_),(30,dY),(32,qL)]
theorem nB:aq aac T20:=.cons fq <| .cons qO <| .cons gh <| .cons fp <| .cons eb <| .cons sr <| .nil mixed
def B20:aH:=[(5,[(0,qr []),(1,none),(2,none),(3,qr [0,3]),(4,qr [0,4]),(5,none),(6,qr [0,6]),(7,qr [0,7]),(8,qr [0,8]),(9,qr [0,9]),(10,qr [0,10,13,15]),(13,qr [0,13]),(11,qr [0,11,13,15]),(14,qr [0,14]),(12,none),(15,none),(16,qr [0,16]),(17,none),(18,qr [0,18]),(19,qr [0,19]),(20,qr [0,20])])]
theorem SF:aD B20 Tryz.f20.body=true:=by kernel_rfl
def T21:aQ:=[(5,fo),(30,dY)]
theorem iS:aq aac T21:=.cons gh <| .cons eb <| .nil mixed
def B21:aH:=[]
theorem zF:aD B21 aaf.body=true:=by kernel_rfl
theorem Tx:c8 aac 21 (FI.of aaf T21 B21):=c8.of Tryz.func21 rfl iS zF Tryz.call21
def T22:aQ:=[(2,Mv),(3,fg),(36,yu),(37,Fe),(38,Fg),(39,Fh),(41,tJ),(87,Fi),(89,yw),(96,A_),(99,Ba)]
theorem dF:aq aac T22:=.cons R3 <| .cons fq <| .cons Di <| .cons IP <| .cons IQ <| .cons IR <| .cons yx <| .cons IU <| .cons Fl <| .cons IV <| .cons IW <| .nil mixed
def DH:aH:=[(1,[(0,qr [3,5,6,8,9,11]),(3,qr [0,3,6,8,9,11]),(6,qr [0,6,9,11]),(9,qr [0,9]),(1,some [0,3,4,6,7,9,10]),(4,qr [0,4,6,8,9,11]),(7,qr [0,7,9,11]),(10,qr [0,10]),(2,none),(12,qr [0,12]),(5,none),(8,none),(11,none),(13,none),(14,qr [0,14]),(15,none),(16,qr [0,16]),(17,none),(18,qr [0,18]),(19,none)]),(5,[(0,qr [2,11]),(2,qr [0,2,3,11]),(3,qr [0,3,5,6]),(5,qr [0,5]),(1,qr [0,1,2,11]),(4,none),(6,qr [0,6]),(7,qr [0,7]),(8,qr [0,8]),(9,none),(10,none),(11,qr [0,11]),(12,qr [0,12]),(13,qr [0,13]),(14,none)])]
theorem Jk:aD DH aag.body=true:=by kernel_rfl
theorem Ty:c8 aac 22 (FI.of aag T22 DH):=c8.of Tryz.func22 rfl dF Jk Tryz.call22
def T23:aQ:=[(5,fo),(29,e_),(30,dY),(32,qL)]
theorem Jz:aq aac T23:=.cons gh <| .cons fp <| .cons eb <| .cons sr <| .nil mixed
def B23:aH:=[]
theorem SG:aD B23 Tryz.f23.body=true:=by kernel_rfl
def T24:aQ:=[(2,Mv),(3,fg),(5,fo),(29,e_),(36,yu),(37,Fe),(38,Fg),(39,Fh),(41,tJ),(89,yw),(96,A_),(99,Ba),(103,RW)]
theorem JA:aq aac T24:=.cons R3 <| .cons fq <| .cons gh <| .cons fp <| .cons Di <| .cons IP <| .cons IQ <| .cons IR <| .cons yx <| .cons Fl <| .cons IV <| .cons IW <| .cons Z4 <| .nil mixed
def B24:aH:=[]
theorem SH:aD B24 Tryz.f24.body=true:=by kernel_rfl
def T25:aQ:=[(3,fg),(4,p_),(5,fo),(29,e_),(30,dY),(32,qL),(108,Mt)]
theorem jA:aq aac T25:=.cons fq <| .cons qO <| .cons gh <| .cons fp <| .cons eb <| .cons sr <| .cons RZ <| .nil mixed
def B25:aH:=[]
theorem SJ:aD B25 Tryz.f25.body=true:=by kernel_rfl
def T26:aQ:=[(3,fg),(27,pJ),(41,tJ),(49,fe)]
theorem ib:aq aac T26:=.cons fq <| .cons qN <| .cons yx <| .cons oM <| .nil mixed
def QV:aH:=[]
theorem DI:aD QV aah.body=true:=by kernel_rfl
theorem Jo:c8 aac 26 (FI.of aah T26 QV):=c8.of Tryz.func26 rfl ib DI Tryz.call26
def T27:aQ:=[(2,Mv),(3,fg),(4,p_),(5,fo),(29,e_),(36,yu),(37,Fe),(38,Fg),(39,Fh),(41,tJ),(87,Fi),(89,yw),(96,A_),(99,Ba)]
theorem dW:aq aac T27:=.cons R3 <| .cons fq <| .cons qO <| .cons gh <| .cons fp <| .cons Di <| .cons IP <| .cons IQ <| .cons IR <| .cons yx <| .cons IU <| .cons Fl <| .cons IV <| .cons IW <| .nil mixed
def B27:aH:=[(6,[(0,qr [2,3,6,12]),(2,qr [0,2,6,12]),(6,qr [0,6,8,9]),(8,qr [0,8]),(1,qr [0,1,2,3,6,12]),(3,qr [0,3,6,12]),(4,qr [0,4,6,12]),(5,qr [0,5,6,12]),(7,none),(9,qr [0,9]),(10,qr [0,10]),(11,none),(12,qr [0,12]),(13,qr [0,13]),(14,qr [0,14,16,17,20,26]),(16,qr [0,16,20,26]),(20,qr [0,20,22,23]),(22,qr [0,22]),(15,qr [0,15,16,17,20,26]),(17,qr [0,17,20,26]),(18,qr [0,18,20,26]),(19,qr [0,19,20,26]),(21,none),(23,qr [0,23]),(24,qr [0,24]),(25,none),(26,qr [0,26]),(27,qr [0,27]),(28,qr [0,28]),(29,qr [0,29,31,32,35,41]),(31,qr [0,31,35,41]),(35,qr [0,35,37,38]),(37,qr [0,37]),(30,qr [0,30,31,32,35,41]),(32,qr [0,32,35,41]),(33,qr [0,33,35,41]),(34,qr [0,34,35,41]),(36,none),(38,qr [0,38]),(39,qr [0,39]),(40,none),(41,none),(42,qr [0,42]),(43,qr [0,43])]),(12,[(0,qr [2,3,5,10]),(2,qr [0,2,5,10]),(5,qr [0,5,7,8]),(7,qr [0,7]),(1,qr [0,1,2,3,5,10]),(3,qr [0,3,5,10]),(4,qr [0,4,5,10]),(6,none),(8,qr [0,8]),(9,none),(10,qr [0,10])]),(18,[(0,qr [2,3,5,10]),(2,qr [0,2,5,10]),(5,qr [0,5,7,8]),(7,qr [0,7]),(1,qr [0,1,2,3,5,10]),(3,qr [0,3,5,10]),(4,qr [0,4,5,10]),(6,none),(8,qr [0,8]),(9,none),(10,qr [0,10])])]
theorem SK:aD B27 Tryz.f27.body=true:=by kernel_rfl
def T28:aQ:=[(3,fg),(4,p_),(27,pJ),(49,fe),(76,Wy)]
theorem ic:aq aac T28:=.cons fq <| .cons qO <| .cons qN <| .cons oM <| .cons Z9 <| .nil mixed
def WB:aH:=[]
theorem Jl:aD WB aai.body=true:=by kernel_rfl
theorem Jp:c8 aac 28 (FI.of aai T28 WB):=c8.of Tryz.func28 rfl ic Jl Tryz.call28
def T29:aQ:=[(5,fo),(49,fe)]
theorem JB:aq aac T29:=.cons gh <| .cons oM <| .nil mixed
def B29:aH:=[]
theorem SL:aD B29 Tryz.f29.body=true:=by kernel_rfl
def T31:aQ:=[(35,qM),(49,fe)]
theorem JC:aq aac T31:=.cons su <| .cons oM <| .nil mixed
def B31:aH:=[]
theorem SM:aD B31 Tryz.f31.body=true:=by kernel_rfl
def T32:aQ:=[(3,fg),(5,fo),(29,e_),(33,Fc),(35,qM),(129,Hc)]
theorem JD:aq aac T32:=.cons fq <| .cons gh <| .cons fp <| .cons IM <| .cons su <| .cons Mw <| .nil mixed
def B32:aH:=[(1,[(0,qr [2,4,5,9,10,14]),(2,qr [0,2,5,9,10,14]),(5,qr [0,5,7,9,10,14]),(7,qr [0,7,10,14]),(10,qr [0,10,12,14]),(12,qr [0,12]),(1,qr [0,1,2,4,5,9,10,14]),(3,qr [0,3,5,9,10,14]),(6,qr [0,6,7,9,10,14]),(8,qr [0,8,10,14]),(11,qr [0,11,12,14]),(13,qr [0,13]),(4,none),(9,none),(14,none),(15,none),(16,none),(17,qr [0,17])])]
theorem SN:aD B32 Tryz.f32.body=true:=by kernel_rfl
def T33:aQ:=[(4,p_),(5,fo),(32,qL),(35,qM),(43,yv),(45,A9)]
theorem JE:aq aac T33:=.cons qO <| .cons gh <| .cons sr <| .cons su <| .cons Bc <| .cons Fk <| .nil mixed
def B33:aH:=[]
theorem SO:aD B33 Tryz.f33.body=true:=by kernel_rfl
def T34:aQ:=[(3,fg),(5,fo),(22,Fb),(35,qM),(43,yv),(45,A9)]
theorem sM:aq aac T34:=.cons fq <| .cons gh <| .cons IL <| .cons su <| .cons Bc <| .cons Fk <| .nil mixed
def B34:aH:=[(4,[(0,some [1]),(1,some [0]),(2,qr [0,2]),(3,none),(4,none),(5,qr [0,5]),(6,qr [0,6,7,8,11,12]),(7,qr [0,7,11,12]),(8,qr [0,8,11,12]),(9,qr [0,9,11,12]),(11,qr [0,11]),(10,none),(12,qr [0,12]),(13,qr [0,13]),(14,qr [0,14]),(15,qr [0,15,16,17,21,22]),(16,qr [0,16,21,22]),(17,qr [0,17,21,22]),(18,qr [0,18,21,22]),(19,qr [0,19,21,22]),(20,qr [0,20,21,22]),(21,none),(22,qr [0,22]),(23,qr [0,23])])]
theorem SP:aD B34 Tryz.f34.body=true:=by kernel_rfl
def T35:aQ:=[(5,fo),(9,ti9),(29,e_),(30,dY),(32,qL)]
theorem JF:aq aac T35:=.cons gh <| .cons tk9 <| .cons fp <| .cons eb <| .cons sr <| .nil mixed
def B35:aH:=[]
theorem SQ:aD B35 Tryz.f35.body=true:=by kernel_rfl
def T36:aQ:=[(3,fg),(5,fo),(27,pJ),(35,qM),(49,fe)]
theorem nC:aq aac T36:=.cons fq <| .cons gh <| .cons qN <| .cons su <| .cons oM <| .nil mixed
def B36:aH:=[(4,[(0,some [1,5]),(1,some [0,5]),(2,some [0,1,5]),(3,qr [0,3,5,6]),(5,qr [0,5]),(4,none),(6,qr [0,6]),(7,qr [0,7]),(8,qr [0,8,9,10,13,14]),(9,qr [0,9,13,14]),(10,qr [0,10,13,14]),(11,qr [0,11,13,14]),(12,qr [0,12,13,14]),(13,none),(14,qr [0,14]),(15,qr [0,15])])]
theorem SR:aD B36 Tryz.f36.body=true:=by kernel_rfl
def T37:aQ:=[(3,fg),(4,p_),(5,fo),(29,e_),(30,dY),(32,qL)]
theorem iT:aq aac T37:=.cons fq <| .cons qO <| .cons gh <| .cons fp <| .cons eb <| .cons sr <| .nil mixed
def B37:aH:=[]
theorem SS:aD B37 Tryz.f37.body=true:=by kernel_rfl
def T38:aQ:=[(3,fg),(5,fo),(22,Fb),(29,e_),(35,qM),(43,yv),(45,A9)]
theorem qe:aq aac T38:=.cons fq <| .cons gh <| .cons IL <| .cons fp <| .cons su <| .cons Bc <| .cons Fk <| .nil mixed
def B38:aH:=[(5,[(0,some [1]),(1,some [0]),(2,qr [0,2]),(3,none),(4,none),(5,qr [0,5]),(6,qr [0,6,7,8,11,12]),(7,qr [0,7,11,12]),(8,qr [0,8,11,12]),(9,qr [0,9,11,12]),(11,qr [0,11]),(10,none),(12,qr [0,12]),(13,qr [0,13]),(14,qr [0,14]),(15,qr [0,15,16,17,21,22]),(16,qr [0,16,21,22]),(17,qr [0,17,21,22]),(18,qr [0,18,21,22]),(19,qr [0,19,21,22]),(20,qr [0,20,21,22]),(21,none),(22,qr [0,22]),(23,qr [0,23])])]
theorem SU:aD B38 Tryz.f38.body=true:=by kernel_rfl
def T39:aQ:=[(5,fo),(29,e_),(33,Fc),(35,qM)]
theorem nD:aq aac T39:=.cons gh <| .cons fp <| .cons IM <| .cons su <| .nil mixed
def B39:aH:=[]
theorem SX:aD B39 Tryz.f39.body=true:=by kernel_rfl
def T40:aQ:=[(3,fg),(5,fo),(30,dY)]
theorem nE:aq aac T40:=.cons fq <| .cons gh <| .cons eb <| .nil mixed
def B40:aH:=[]
theorem SY:aD B40 Tryz.f40.body=true:=by kernel_rfl
def T41:aQ:=[(29,e_),(32,qL)]
theorem JG:aq aac T41:=.cons fp <| .cons sr <| .nil mixed
def B41:aH:=[]
theorem SZ:aD B41 Tryz.f41.body=true:=by kernel_rfl
def T42:aQ:=[(3,fg),(29,e_)]
theorem JH:aq aac T42:=.cons fq <| .cons fp <| .nil mixed
def B42:aH:=[]
theorem S0:aD B42 Tryz.f42.body=true:=by kernel_rfl
def T43:aQ:=[(3,fg),(5,fo),(29,e_),(30,dY)]
theorem qf:aq aac T43:=.cons fq <| .cons gh <| .cons fp <| .cons eb <| .nil mixed
def Xl:aH:=[]
theorem S1:aD Xl Tryz.f43.body=true:=by kernel_rfl
def T44:aQ:=[(2,Mv),(36,yu)]
theorem iU:aq aac T44:=.cons R3 <| .cons Di <| .nil mixed
def B44:aH:=[]
theorem zG:aD B44 aaj.body=true:=by kernel_rfl
theorem Tz:c8 aac 44 (FI.of aaj T44 B44):=c8.of Tryz.func44 rfl iU zG Tryz.call44
def T45:aQ:=[(38,Fg),(96,A_)]
theorem iV:aq aac T45:=.cons IQ <| .cons IV <| .nil mixed
def B45:aH:=[]
theorem zH:aD B45 aak.body=true:=by kernel_rfl
theorem TA:c8 aac 45 (FI.of aak T45 B45):=c8.of Tryz.func45 rfl iV zH Tryz.call45
def T46:aQ:=[(39,Fh),(99,Ba)]
theorem iW:aq aac T46:=.cons IR <| .cons IW <| .nil mixed
def B46:aH:=[]
theorem zI:aD B46 aal.body=true:=by kernel_rfl
theorem TB:c8 aac 46 (FI.of aal T46 B46):=c8.of Tryz.func46 rfl iW zI Tryz.call46
def T47:aQ:=[(37,Fe),(89,yw)]
theorem iX:aq aac T47:=.cons IP <| .cons Fl <| .nil mixed
def B47:aH:=[]
theorem zJ:aD B47 aam.body=true:=by kernel_rfl
theorem TC:c8 aac 47 (FI.of aam T47 B47):=c8.of Tryz.func47 rfl iX zJ Tryz.call47
def T48:aQ:=[(3,fg),(5,fo),(30,dY)]
theorem kf:aq aac T48:=.cons fq <| .cons gh <| .cons eb <| .nil mixed
def B48:aH:=[(6,[(0,qr [1,2,4,8]),(1,qr [0,1,4,8]),(2,qr [0,2,4,8]),(4,qr [0,4,5,6]),(5,qr [0,5]),(6,qr [0,6]),(3,qr [0,3,4,8]),(7,none),(8,qr [0,8])])]
theorem S2:aD B48 Tryz.f48.body=true:=by kernel_rfl
def T49:aQ:=[(5,fo),(29,e_),(87,Fi),(89,yw)]
theorem JI:aq aac T49:=.cons gh <| .cons fp <| .cons IU <| .cons Fl <| .nil mixed
def B49:aH:=[]
theorem S3:aD B49 Tryz.f49.body=true:=by kernel_rfl
def T50:aQ:=[(2,Mv),(3,fg),(29,e_),(36,yu),(85,Wz),(87,Fi)]
theorem JJ:aq aac T50:=.cons R3 <| .cons fq <| .cons fp <| .cons Di <| .cons Z_ <| .cons IU <| .nil mixed
def B50:aH:=[]
theorem S4:aD B50 Tryz.f50.body=true:=by kernel_rfl
def T51:aQ:=[(2,Mv),(3,fg),(36,yu)]
theorem kg:aq aac T51:=.cons R3 <| .cons fq <| .cons Di <| .nil mixed
def B51:aH:=[(6,[(0,qr [1,2,4,8]),(1,qr [0,1,4,8]),(2,qr [0,2,4,8]),(4,qr [0,4,5,6]),(5,qr [0,5]),(6,qr [0,6]),(3,qr [0,3,4,8]),(7,none),(8,qr [0,8])])]
theorem S5:aD B51 Tryz.f51.body=true:=by kernel_rfl
def T52:aQ:=[(3,fg),(4,p_),(37,Fe),(89,yw)]
theorem ki:aq aac T52:=.cons fq <| .cons qO <| .cons IP <| .cons Fl <| .nil mixed
def B52:aH:=[]
theorem S6:aD B52 Tryz.f52.body=true:=by kernel_rfl
def T53:aQ:=[(3,fg),(38,Fg),(96,A_)]
theorem kj:aq aac T53:=.cons fq <| .cons IQ <| .cons IV <| .nil mixed
def B53:aH:=[(6,[(0,qr [1,2,4,8]),(1,qr [0,1,4,8]),(2,qr [0,2,4,8]),(4,qr [0,4,5,6]),(5,qr [0,5]),(6,qr [0,6]),(3,qr [0,3,4,8]),(7,none),(8,qr [0,8])])]
theorem S7:aD B53 Tryz.f53.body=true:=by kernel_rfl
def T54:aQ:=[(3,fg),(39,Fh),(99,Ba)]
theorem km:aq aac T54:=.cons fq <| .cons IR <| .cons IW <| .nil mixed
def B54:aH:=[(6,[(0,qr [1,2,4,8]),(1,qr [0,1,4,8]),(2,qr [0,2,4,8]),(4,qr [0,4,5,6]),(5,qr [0,5]),(6,qr [0,6]),(3,qr [0,3,4,8]),(7,none),(8,qr [0,8])])]
theorem S8:aD B54 Tryz.f54.body=true:=by kernel_rfl
def T55:aQ:=[(5,fo),(30,dY),(32,qL),(108,Mt)]
theorem qg:aq aac T55:=.cons gh <| .cons eb <| .cons sr <| .cons RZ <| .nil mixed
def B55:aH:=[]
theorem S9:aD B55 Tryz.f55.body=true:=by kernel_rfl
def T56:aQ:=[(27,pJ),(49,fe)]
theorem nF:aq aac T56:=.cons qN <| .cons oM <| .nil mixed
def B56:aH:=[]
theorem DJ:aD B56 aan.body=true:=by kernel_rfl
theorem TD:c8 aac 56 (FI.of aan T56 B56):=c8.of Tryz.func56 rfl nF DJ Tryz.call56
def T57:aQ:=[(2,Mv),(3,fg),(29,e_),(36,yu),(85,Wz),(87,Fi)]
theorem jB:aq aac T57:=.cons R3 <| .cons fq <| .cons fp <| .cons Di <| .cons Z_ <| .cons IU <| .nil mixed
def B57:aH:=[(6,[(0,qr [2,3,5,10]),(2,qr [0,2,5,10]),(5,qr [0,5,7,8]),(7,qr [0,7]),(1,qr [0,1,2,3,5,10]),(3,qr [0,3,5,10]),(4,qr [0,4,5,10]),(6,none),(8,qr [0,8]),(9,none),(10,qr [0,10])])]
theorem S_:aD B57 Tryz.f57.body=true:=by kernel_rfl
def T58:aQ:=[(3,fg),(27,pJ),(49,fe)]
theorem mA:aq aac T58:=.cons fq <| .cons qN <| .cons oM <| .nil mixed
def B58:aH:=[]
theorem Jm:aD B58 aao.body=true:=by kernel_rfl
theorem TE:c8 aac 58 (FI.of aao T58 B58):=c8.of Tryz.func58 rfl mA Jm Tryz.call58
def T60:aQ:=[(29,e_),(33,Fc),(113,xg)]
theorem UE:aq aac T60:=.cons fp <| .cons IM <| .cons zt <| .nil mixed
def B60:aH:=[]
theorem Ta:aD B60 aap.body=true:=by kernel_rfl
theorem TG:c8 aac 60 (FI.of aap T60 B60):=c8.of Tryz.func60 rfl UE Ta Tryz.call60
def T61:aQ:=[(3,fg),(129,Hc)]
theorem eS:aq aac T61:=.cons fq <| .cons Mw <| .nil mixed
def B61:aH:=[]
theorem DK:aD B61 aaq.body=true:=by kernel_rfl
theorem TH:c8 aac 61 (FI.of aaq T61 B61):=c8.of Tryz.func61 rfl eS DK Tryz.call61
def T62:aQ:=[(29,e_)]
theorem fO:aq aac T62:=.cons fp <| .nil mixed
def B62:aH:=[]
theorem DL:aD B62 aar.body=true:=by kernel_rfl
theorem TJ:c8 aac 62 (FI.of aar T62 B62):=c8.of Tryz.func62 rfl fO DL Tryz.call62
def T63:aQ:=[(5,fo)]
theorem fP:aq aac T63:=.cons gh <| .nil mixed
def B63:aH:=[]
theorem DM:aD B63 aas.body=true:=by kernel_rfl
theorem TL:c8 aac 63 (FI.of aas T63 B63):=c8.of Tryz.func63 rfl fP DM Tryz.call63
def T64:aQ:=[(33,Fc)]
theorem nG:aq aac T64:=.cons IM <| .nil mixed
def B64:aH:=[]
theorem Tb:aD B64 Tryz.f64.body=true:=by kernel_rfl
def T65:aQ:=[(3,fg),(4,p_),(5,fo),(29,e_),(30,dY),(32,qL)]
theorem nH:aq aac T65:=.cons fq <| .cons qO <| .cons gh <| .cons fp <| .cons eb <| .cons sr <| .nil mixed
def B65:aH:=[(5,[(0,qr []),(1,none),(2,qr [0,2]),(3,qr [0,3]),(4,qr [0,4]),(5,qr [0,5]),(6,none),(7,none),(8,qr [0,8]),(9,qr [0,9]),(10,qr [0,10,12,14,15,19]),(12,qr [0,12,15,19]),(15,qr [0,15,17,19]),(17,qr [0,17]),(11,qr [0,11,12,14,15,19]),(13,qr [0,13,15,19]),(16,qr [0,16,17,19]),(18,qr [0,18]),(14,none),(19,none),(20,qr [0,20]),(21,qr [0,21]),(22,qr [0,22]),(23,qr [0,23])])]
theorem Tc:aD B65 Tryz.f65.body=true:=by kernel_rfl
def T66:aQ:=[(3,fg),(5,fo),(30,dY),(135,gD),(148,dB)]
theorem ko:aq aac T66:=.cons fq <| .cons gh <| .cons eb <| .cons gM <| .cons fY <| .nil mixed
def QX:aH:=[]
theorem Td:aD QX Tryz.f66.body=true:=by kernel_rfl
def T67:aQ:=[(3,fg),(5,fo),(29,e_),(30,dY)]
theorem qh:aq aac T67:=.cons fq <| .cons gh <| .cons fp <| .cons eb <| .nil mixed
def Xm:aH:=[]
theorem Te:aD Xm Tryz.f67.body=true:=by kernel_rfl
def T68:aQ:=[(3,fg),(5,fo),(30,dY),(135,gD),(148,dB)]
theorem nI:aq aac T68:=.cons fq <| .cons gh <| .cons eb <| .cons gM <| .cons fY <| .nil mixed
def B68:aH:=[]
theorem Tf:aD B68 Tryz.f68.body=true:=by kernel_rfl
def T77:aQ:=[(3,fg),(5,fo),(9,ti9),(33,Fc)]
theorem UF:aq aac T77:=.cons fq <| .cons gh <| .cons tk9 <| .cons IM <| .nil mixed
def B77:aH:=[]
theorem Tg:aD B77 aau.body=true:=by kernel_rfl
theorem TM:c8 aac 77 (FI.of aau T77 B77):=c8.of Tryz.func77 rfl UF Tg Tryz.call77
def T78:aQ:=[(3,fg),(5,fo),(9,ti9),(29,e_)]
theorem UG:aq aac T78:=.cons fq <| .cons gh <| .cons tk9 <| .cons fp <| .nil mixed
def B78:aH:=[]
theorem Th:aD B78 aav.body=true:=by kernel_rfl
theorem TN:c8 aac 78 (FI.of aav T78 B78):=c8.of Tryz.func78 rfl UG Th Tryz.call78
def T79:aQ:=[(29,e_)]
theorem vj:aq aac T79:=.cons fp <| .nil mixed
def B79:aH:=[]
theorem DN:aD B79 aaw.body=true:=by kernel_rfl
theorem TP:c8 aac 79 (FI.of aaw T79 B79):=c8.of Tryz.func79 rfl vj DN Tryz.call79
def T80:aQ:=[(5,fo)]
theorem vm:aq aac T80:=.cons gh <| .nil mixed
def B80:aH:=[]
theorem DP:aD B80 aax.body=true:=by kernel_rfl
theorem TQ:c8 aac 80 (FI.of aax T80 B80):=c8.of Tryz.func80 rfl vm DP Tryz.call80
def T81:aQ:=[(33,Fc)]
theorem JK:aq aac T81:=.cons IM <| .nil mixed
def B81:aH:=[]
theorem Ti:aD B81 Tryz.f81.body=true:=by kernel_rfl
def T82:aQ:=[(3,fg),(5,fo),(30,dY)]
theorem nK:aq aac T82:=.cons fq <| .cons gh <| .cons eb <| .nil mixed
def B82:aH:=[(4,[(0,some [1]),(1,some [0]),(2,qr [0,2]),(3,none),(4,qr [0,4]),(5,qr [0,5]),(6,qr [0,6]),(7,qr [0,7]),(8,qr [0,8]),(9,qr [0,9,10,12,14,18]),(10,qr [0,10,14,18]),(11,qr [0,11,14,18]),(12,qr [0,12,14,18]),(14,qr [0,14,15,16]),(15,qr [0,15]),(16,qr [0,16]),(13,qr [0,13,14,18]),(17,none),(18,qr [0,18]),(19,qr [0,19]),(20,qr [0,20])])]
theorem Tj:aD B82 Tryz.f82.body=true:=by kernel_rfl
def T83:aQ:=[(3,fg),(4,p_),(5,fo),(30,dY)]
theorem qi:aq aac T83:=.cons fq <| .cons qO <| .cons gh <| .cons eb <| .nil mixed
def Xp:aH:=[]
theorem Tk:aD Xp Tryz.f83.body=true:=by kernel_rfl
def T84:aQ:=[(3,fg),(4,p_),(5,fo),(29,e_),(30,dY),(135,gD),(148,dB)]
theorem jC:aq aac T84:=.cons fq <| .cons qO <| .cons gh <| .cons fp <| .cons eb <| .cons gM <| .cons fY <| .nil mixed
def NO:aH:=[]
theorem Tl:aD NO Tryz.f84.body=true:=by kernel_rfl
def WC:aQ:=[(3,fg),(4,p_),(5,fo),(30,dY),(135,gD),(148,dB)]
theorem cU:aq aac WC:=.cons fq <| .cons qO <| .cons gh <| .cons eb <| .cons gM <| .cons fY <| .nil mixed
def xM:aH:=[(17,[(0,qr []),(1,some [0]),(2,qr [0,2]),(4,qr [0,4,5,6]),(5,qr [0,5]),(6,qr [0,6]),(3,qr [0,3,4,8]),(7,none),(8,none),(9,qr [0,9])])]
theorem Tm:aD xM Tryz.f85.body=true:=by kernel_rfl
def T86:aQ:=[(3,fg),(5,fo),(30,dY)]
theorem nL:aq aac T86:=.cons fq <| .cons gh <| .cons eb <| .nil mixed
def B86:aH:=[]
theorem Tn:aD B86 Tryz.f86.body=true:=by kernel_rfl
def T87:aQ:=[(5,fo),(29,e_)]
theorem vq:aq aac T87:=.cons gh <| .cons fp <| .nil mixed
def Xq:aH:=[]
theorem Tp:aD Xq Tryz.f87.body=true:=by kernel_rfl
def T88:aQ:=[(3,fg),(4,p_),(5,fo),(29,e_),(30,dY),(135,gD),(148,dB),(152,RX),(153,RY)]
theorem dh:aq aac T88:=.cons fq <| .cons qO <| .cons gh <| .cons fp <| .cons eb <| .cons gM <| .cons fY <| .cons Z5 <| .cons Z6 <| .nil mixed
def I3:aH:=[(9,[(1,some [0,2,4,5]),(2,qr [0,2,4,6]),(3,qr [0,3,4,6]),(0,qr [1,7]),(4,none),(5,qr [0,5]),(6,qr [0,6]),(7,qr [0,7]),(8,qr [0,8]),(9,none),(10,qr [0,10])])]
theorem Tq:aD I3 Tryz.f88.body=true:=by kernel_rfl
def Xy:aQ:=[(3,fg),(5,fo),(30,dY),(135,gD),(148,dB),(155,ui)]
theorem di:aq aac Xy:=.cons fq <| .cons gh <| .cons eb <| .cons gM <| .cons fY <| .cons xo <| .nil mixed
def BD:aH:=[]
theorem DQ:aD BD aay.body=true:=by kernel_rfl
theorem TR:c8 aac 89 (FI.of aay Xy BD):=c8.of Tryz.func89 rfl di DQ Tryz.call89
def T90:aQ:=[(3,fg),(5,fo),(30,dY),(113,xg)]
theorem mB:aq aac T90:=.cons fq <| .cons gh <| .cons eb <| .cons zt <| .nil mixed
def B90:aH:=[]
theorem DR:aD B90 aaz.body=true:=by kernel_rfl
theorem TS:c8 aac 90 (FI.of aaz T90 B90):=c8.of Tryz.func90 rfl mB DR Tryz.call90
def T92:aQ:=[(3,fg),(113,xg)]
theorem UH:aq aac T92:=.cons fq <| .cons zt <| .nil mixed
def B92:aH:=[]
theorem Tr:aD B92 aaA.body=true:=by kernel_rfl
theorem TT:c8 aac 92 (FI.of aaA T92 B92):=c8.of Tryz.func92 rfl UH Tr Tryz.call92
def T93:aQ:=[(140,Hd)]
theorem UI:aq aac T93:=.cons Mx <| .nil mixed
def B93:aH:=[(1,[(0,qr [3,7]),(1,qr [0,1,3,7]),(3,qr [0,3]),(4,qr [0,4]),(2,qr [0,2,3,7]),(5,none),(6,qr [0,6]),(7,qr [0,7]),(8,qr [0,8]),(9,none)]),(2,[(0,qr [3,7]),(1,qr [0,1,3,7]),(3,qr [0,3]),(4,qr [0,4]),(2,qr [0,2,3,7]),(5,none),(6,qr [0,6]),(7,qr [0,7]),(8,qr [0,8]),(9,none)]),(3,[(0,qr [3,7]),(1,qr [0,1,3,7]),(3,qr [0,3]),(4,qr [0,4]),(2,qr [0,2,3,7]),(5,none),(6,qr [0,6]),(7,qr [0,7]),(8,qr [0,8]),(9,none)])]
theorem Ts:aD B93 aaB.body=true:=by kernel_rfl
theorem TU:c8 aac 93 (FI.of aaB T93 B93):=c8.of Tryz.func93 rfl UI Ts Tryz.call93
def T96:aQ:=[(3,fg),(5,fo),(30,dY)]
theorem nM:aq aac T96:=.cons fq <| .cons gh <| .cons eb <| .nil mixed
def B96:aH:=[]
theorem Tt:aD B96 Tryz.f96.body=true:=by kernel_rfl
def T97:aQ:=[(5,fo),(29,e_),(30,dY)]
theorem DW:aq aac T97:=.cons gh <| .cons fp <| .cons eb <| .nil mixed
def B97:aH:=[]
theorem Tu:aD B97 Tryz.f97.body=true:=by kernel_rfl
def T98:aQ:=[(5,fo),(29,e_),(30,dY)]
theorem DY:aq aac T98:=.cons gh <| .cons fp <| .cons eb <| .nil mixed
def B98:aH:=[]
theorem Tv:aD B98 Tryz.f98.body=true:=by kernel_rfl
def T99:aQ:=[(5,fo),(29,e_),(148,dB)]
theorem JM:aq aac T99:=.cons gh <| .cons fp <| .cons fY <| .nil mixed
def B99:aH:=[]
theorem Tw:aD B99 Tryz.f99.body=true:=by kernel_rfl
def T1:aQ:=[(5,fo),(29,e_),(30,dY)]
theorem zP:aq aac T1:=.cons gh <| .cons fp <| .cons eb <| .nil mixed
def R6:aH:=[]
theorem Fu:aD R6 aaC.body=true:=by kernel_rfl
theorem NQ:c8 aac 100 (FI.of aaC T1 R6):=c8.of Tryz.func100 rfl zP Fu Tryz.call100
def abL:aQ:=[(29,e_),(135,gD),(148,dB)]
theorem FO:aq aac abL:=.cons fp <| .cons gM <| .cons fY <| .nil mixed
def abd:aH:=[(1,[(1,some [0,5]),(0,some [1,5]),(2,some [0,1,5]),(3,qr [0,3,5,6]),(4,qr [0,4,5,6]),(5,none),(6,qr [0,6]),(7,qr [0,7])])]
theorem Np:aD abd Tryz.f102.body=true:=by kernel_rfl
def T2:aQ:=[(3,fg),(5,fo),(30,dY)]
theorem OB:aq aac T2:=.cons fq <| .cons gh <| .cons eb <| .nil mixed
def R7:aH:=[(6,[(0,qr [1,2,4,9]),(1,qr [0,1,4,9]),(2,qr [0,2,4,9]),(4,qr [0,4,5,7]),(5,qr [0,5]),(6,qr [0,6]),(7,qr [0,7]),(3,qr [0,3,4,9]),(8,none),(9,qr [0,9])]),(11,[(0,qr [1,2,4,9]),(1,qr [0,1,4,9]),(2,qr [0,2,4,9]),(4,qr [0,4,5,7]),(5,qr [0,5]),(6,qr [0,6]),(7,qr [0,7]),(3,qr [0,3,4,9]),(8,none),(9,qr [0,9])])]
theorem Nq:aD R7 aaD.body=true:=by kernel_rfl
theorem NR:c8 aac 103 (FI.of aaD T2 R7):=c8.of Tryz.func103 rfl OB Nq Tryz.call103
def T3:aQ:=[(5,fo),(29,e_),(30,dY)]
theorem zQ:aq aac T3:=.cons gh <| .cons fp <| .cons eb <| .nil mixed
def R8:aH:=[]
theorem Fv:aD R8 aaE.body=true:=by kernel_rfl
theorem NS:c8 aac 104 (FI.of aaE T3 R8):=c8.of Tryz.func104 rfl zQ Fv Tryz.call104
def T4:aQ:=[(3,fg),(113,xg),(135,gD),(148,dB),(155,ui)]
theorem OC:aq aac T4:=.cons fq <| .cons zt <| .cons gM <| .cons fY <| .cons xo <| .nil mixed
def R9:aH:=[]
theorem Nr:aD R9 aaF.body=true:=by kernel_rfl
theorem NT:c8 aac 105 (FI.of aaF T4 R9):=c8.of Tryz.func105 rfl OC Nr Tryz.call105
def T_:aQ:=[(3,fg),(5,fo),(29,e_),(129,Hc),(148,dB)]
theorem zR:aq aac T_:=.cons fq <| .cons gh <| .cons fp <| .cons Mw <| .cons fY <| .nil mixed
def R_:aH:=[(1,[(0,qr [2,4,5,9]),(2,qr [0,2,5,9]),(5,qr [0,5,7,9]),(7,qr [0,7]),(1,qr [0,1,2,4,5,9]),(3,qr [0,3,5,9]),(6,qr [0,6,7,9]),(8,qr [0,8]),(4,none),(9,none),(10,none),(11,none),(12,qr [0,12])])]
theorem Fw:aD R_ aaG.body=true:=by kernel_rfl
theorem NU:c8 aac 106 (FI.of aaG T_ R_):=c8.of Tryz.func106 rfl zR Fw Tryz.call106
def Ua:aQ:=[(3,fg),(4,p_),(5,fo),(30,dY),(121,Mu)]
theorem bg:aq aac Ua:=.cons fq <| .cons qO <| .cons gh <| .cons eb <| .cons R0 <| .nil mixed
def um:aH:=[(17,[(0,qr []),(1,some [0]),(2,qr [0,2]),(3,qr [0,3,4,6,8,12]),(4,qr [0,4,8,12]),(5,qr [0,5,8,12]),(6,qr [0,6,8,12]),(8,qr [0,8,9,10]),(9,qr [0,9]),(10,qr [0,10]),(7,qr [0,7,8,12]),(11,none),(12,none),(13,qr [0,13]),(14,qr [0,14])])]
theorem zD:aD um aaH.body=true:=by kernel_rfl
theorem NV:c8 aac 107 (FI.of aaH Ua um):=c8.of Tryz.func107 rfl bg zD Tryz.call107
def abM:aQ:=[(29,e_)]
theorem zS:aq aac abM:=.cons fp <| .nil mixed
def abe:aH:=[]
theorem Ns:aD abe Tryz.f109.body=true:=by kernel_rfl
def abN:aQ:=[(3,fg),(5,fo),(29,e_),(30,dY)]
theorem qV:aq aac abN:=.cons fq <| .cons gh <| .cons fp <| .cons eb <| .nil mixed
def Nt:aH:=[]
theorem Nu:aD Nt Tryz.f110.body=true:=by kernel_rfl
def Ub:aQ:=[(29,e_)]
theorem OD:aq aac Ub:=.cons fp <| .nil mixed
def Sa:aH:=[]
theorem Nv:aD Sa aaI.body=true:=by kernel_rfl
theorem NW:c8 aac 111 (FI.of aaI Ub Sa):=c8.of Tryz.func111 rfl OD Nv Tryz.call111
def Uc:aQ:=[(3,fg),(5,fo),(29,e_),(30,dY)]
theorem OE:aq aac Uc:=.cons fq <| .cons gh <| .cons fp <| .cons eb <| .nil mixed
def Sb:aH:=[]
theorem Nw:aD Sb aaJ.body=true:=by kernel_rfl
theorem NX:c8 aac 112 (FI.of aaJ Uc Sb):=c8.of Tryz.func112 rfl OE Nw Tryz.call112
def Ud:aQ:=[(3,fg),(4,p_),(121,Mu),(135,gD),(148,dB),(155,ui)]
theorem OG:aq aac Ud:=.cons fq <| .cons qO <| .cons R0 <| .cons gM <| .cons fY <| .cons xo <| .nil mixed
def Sc:aH:=[(17,[(0,qr []),(1,some [0]),(2,qr [0,2]),(3,qr [0,3,4,13]),(4,qr [0,4,5,7,9,13]),(5,qr [0,5,9,13]),(6,qr [0,6,9,13]),(7,qr [0,7,9,13]),(9,qr [0,9,10,11]),(10,qr [0,10]),(11,qr [0,11]),(8,qr [0,8,9,13]),(12,none),(13,none),(14,qr [0,14]),(15,qr [0,15]),(16,qr [0,16])])]
theorem Nx:aD Sc aaK.body=true:=by kernel_rfl
theorem NY:c8 aac 113 (FI.of aaK Ud Sc):=c8.of Tryz.func113 rfl OG Nx Tryz.call113
def Ue:aQ:=[(3,fg),(5,fo),(30,dY)]
theorem jQ:aq aac Ue:=.cons fq <| .cons gh <| .cons eb <| .nil mixed
def DF:aH:=[(4,[(0,some [1]),(1,some [0]),(2,qr [0,2]),(3,qr [0,3]),(4,qr [0,4,5,6,8,13]),(5,qr [0,5,8,13]),(6,qr [0,6,8,13]),(8,qr [0,8,9,11]),(9,qr [0,9]),(10,qr [0,10]),(11,qr [0,11]),(7,qr [0,7,8,13]),(12,none),(13,none),(14,qr [0,14])]),(6,[(0,qr [1,14]),(1,qr [0,1,2,14]),(2,qr [0,2,3,16]),(3,qr [0,3,5,16]),(4,qr [0,4,5,16]),(5,qr [0,5,6,8,10,14]),(6,qr [0,6,10,14]),(7,qr [0,7,10,14]),(8,qr [0,8,10,14]),(10,qr [0,10,11,12]),(11,qr [0,11]),(12,qr [0,12]),(9,qr [0,9,10,14]),(13,none),(14,qr [0,14]),(15,none),(16,qr [0,16]),(17,none)])]
theorem Fx:aD DF aaL.body=true:=by kernel_rfl
theorem NZ:c8 aac 114 (FI.of aaL Ue DF):=c8.of Tryz.func114 rfl jQ Fx Tryz.call114
def Uf:aQ:=[(3,fg),(5,fo),(30,dY)]
theorem gj:aq aac Uf:=.cons fq <| .cons gh <| .cons eb <| .nil mixed
def DG:aH:=[(10,[(0,qr [1,16]),(1,qr [0,1,2,16]),(2,qr [0,2,3,18]),(3,qr [0,3,4,5,6,18]),(4,qr [0,4,6,18]),(5,qr [0,5,6,18]),(6,qr [0,6,7,10,12,16]),(7,qr [0,7,8,9,12,16]),(8,qr [0,8,12,16]),(9,qr [0,9,12,16]),(10,qr [0,10,12,16]),(12,qr [0,12,13,14]),(13,qr [0,13]),(14,qr [0,14]),(11,qr [0,11,12,16]),(15,none),(16,qr [0,16]),(17,none),(18,qr [0,18]),(19,none)])]
theorem Fy:aD DG aaM.body=true:=by kernel_rfl
theorem N4:c8 aac 115 (FI.of aaM Uf DG):=c8.of Tryz.func115 rfl gj Fy Tryz.call115
def Ug:aQ:=[(3,fg),(5,fo),(30,dY),(113,xg),(140,Hd)]
theorem eM:aq aac Ug:=.cons fq <| .cons gh <| .cons eb <| .cons zt <| .cons Mx <| .nil mixed
def zE:aH:=[(10,[(0,qr [1,16]),(1,qr [0,1,2,16]),(2,qr [0,2,3,18]),(3,qr [0,3,4,5,6,18]),(4,qr [0,4,6,18]),(5,qr [0,5,6,18]),(6,qr [0,6,7,10,12,16]),(7,qr [0,7,8,9,12,16]),(8,qr [0,8,12,16]),(9,qr [0,9,12,16]),(10,qr [0,10,12,16]),(12,qr [0,12,13,14]),(13,qr [0,13]),(14,qr [0,14]),(11,qr [0,11,12,16]),(15,none),(16,qr [0,16]),(17,none),(18,qr [0,18]),(19,none)])]
theorem Fz:aD zE aaN.body=true:=by kernel_rfl
theorem N5:c8 aac 116 (FI.of aaN Ug zE):=c8.of Tryz.func116 rfl eM Fz Tryz.call116
def Uh:aQ:=[(3,fg),(5,fo),(30,dY),(144,xh)]
theorem cx:aq aac Uh:=.cons fq <| .cons gh <| .cons eb <| .cons zu <| .nil mixed
def Sd:aH:=[]
theorem FA:aD Sd aaO.body=true:=by kernel_rfl
theorem N6:c8 aac 117 (FI.of aaO Uh Sd):=c8.of Tryz.func117 rfl cx FA Tryz.call117
def Ui:aQ:=[(3,fg),(5,fo),(30,dY)]
theorem oQ:aq aac Ui:=.cons fq <| .cons gh <| .cons eb <| .nil mixed
def Ji:aH:=[(3,[(0,qr [1,12]),(1,qr [0,1,2,12]),(2,qr [0,2,3,14]),(3,qr [0,3,4,14]),(4,qr [0,4,5,6,8,12]),(5,qr [0,5,8,12]),(6,qr [0,6,8,12]),(8,qr [0,8,9,10]),(9,qr [0,9]),(10,qr [0,10]),(7,qr [0,7,8,12]),(11,none),(12,qr [0,12]),(13,none),(14,qr [0,14]),(15,none)])]
theorem FB:aD Ji aaP.body=true:=by kernel_rfl
theorem N7:c8 aac 118 (FI.of aaP Ui Ji):=c8.of Tryz.func118 rfl oQ FB Tryz.call118
def Uj:aQ:=[(3,fg),(4,p_),(5,fo),(30,dY)]
theorem bJ:aq aac Uj:=.cons fq <| .cons qO <| .cons gh <| .cons eb <| .nil mixed
def pB:aH:=[(5,[(0,some [1]),(1,some [0]),(2,qr [0,2]),(3,qr [0,3]),(4,qr [0,4,5,6,8,13]),(5,qr [0,5,8,13]),(6,qr [0,6,8,13]),(8,qr [0,8,9,11]),(9,qr [0,9]),(10,qr [0,10]),(11,qr [0,11]),(7,qr [0,7,8,13]),(12,none),(13,none),(14,qr [0,14]),(15,qr [0,15])]),(11,[(0,qr [1,14]),(1,qr [0,1,2,14]),(2,qr [0,2,3,16]),(3,qr [0,3,5,16]),(4,qr [0,4,5,16]),(5,qr [0,5,6,8,10,14]),(6,qr [0,6,10,14]),(7,qr [0,7,10,14]),(8,qr [0,8,10,14]),(10,qr [0,10,11,12]),(11,qr [0,11]),(12,qr [0,12]),(9,qr [0,9,10,14]),(13,none),(14,qr [0,14]),(15,none),(16,qr [0,16]),(17,none)]),(16,[(0,qr [1,2,4,9]),(1,qr [0,1,4,9]),(2,qr [0,2,4,9]),(4,qr [0,4,5,7]),(5,qr [0,5]),(6,qr [0,6]),(7,qr [0,7]),(3,qr [0,3,4,9]),(8,none),(9,none),(10,qr [0,10])]),(17,[(0,qr [1,14]),(1,qr [0,1,2,14]),(2,qr [0,2,3,16]),(3,qr [0,3,5,16]),(4,qr [0,4,5,16]),(5,qr [0,5,6,8,10,14]),(6,qr [0,6,10,14]),(7,qr [0,7,10,14]),(8,qr [0,8,10,14]),(10,qr [0,10,11,12]),(11,qr [0,11]),(12,qr [0,12]),(9,qr [0,9,10,14]),(13,none),(14,qr [0,14]),(15,none),(16,qr [0,16]),(17,none)]),(22,[(0,qr [1,2,4,9]),(1,qr [0,1,4,9]),(2,qr [0,2,4,9]),(4,qr [0,4,5,7]),(5,qr [0,5]),(6,qr [0,6]),(7,qr [0,7]),(3,qr [0,3,4,9]),(8,none),(9,none),(10,qr [0,10])]),(23,[(0,qr [1,14]),(1,qr [0,1,2,14]),(2,qr [0,2,3,16]),(3,qr [0,3,5,16]),(4,qr [0,4,5,16]),(5,qr [0,5,6,8,10,14]),(6,qr [0,6,10,14]),(7,qr [0,7,10,14]),(8,qr [0,8,10,14]),(10,qr [0,10,11,12]),(11,qr [0,11]),(12,qr [0,12]),(9,qr [0,9,10,14]),(13,none),(14,qr [0,14]),(15,none),(16,qr [0,16]),(17,none)])]
theorem FC:aD pB aaQ.body=true:=by kernel_rfl
theorem N8:c8 aac 119 (FI.of aaQ Uj pB):=c8.of Tryz.func119 rfl bJ FC Tryz.call119
def Uk:aQ:=[(4,p_),(5,fo)]
theorem zT:aq aac Uk:=.cons qO <| .cons gh <| .nil mixed
def Sf:aH:=[]
theorem FD:aD Sf aaR.body=true:=by kernel_rfl
theorem N9:c8 aac 120 (FI.of aaR Uk Sf):=c8.of Tryz.func120 rfl zT FD Tryz.call120
def Ul:aQ:=[(3,fg),(4,p_),(5,fo),(30,dY)]
theorem dZ:aq aac Ul:=.cons fq <| .cons qO <| .cons gh <| .cons eb <| .nil mixed
def u9:aH:=[(1,[(0,qr [1,12]),(1,qr [0,1,2,12]),(2,qr [0,2,3,14]),(3,qr [0,3,4,14]),(4,qr [0,4,5,6,8,12]),(5,qr [0,5,8,12]),(6,qr [0,6,8,12]),(8,qr [0,8,9,10]),(9,qr [0,9]),(10,qr [0,10]),(7,qr [0,7,8,12]),(11,none),(12,qr [0,12]),(13,none),(14,qr [0,14]),(15,none)]),(3,[(0,some [1]),(1,some [0]),(2,qr [0,2]),(3,qr [0,3]),(4,qr [0,4,5,6,8,12]),(5,qr [0,5,8,12]),(6,qr [0,6,8,12]),(8,qr [0,8,9,10]),(9,qr [0,9]),(10,qr [0,10]),(7,qr [0,7,8,12]),(11,none),(12,none),(13,qr [0,13]),(14,qr [0,14])]),(5,[(0,some [1]),(1,some [0]),(2,qr [0,2]),(3,qr [0,3]),(4,qr [0,4,5,6,8,12]),(5,qr [0,5,8,12]),(6,qr [0,6,8,12]),(8,qr [0,8,9,10]),(9,qr [0,9]),(10,qr [0,10]),(7,qr [0,7,8,12]),(11,none),(12,none),(13,qr [0,13])]),(8,[(0,qr [1,12]),(1,qr [0,1,2,12]),(2,qr [0,2,3,14]),(3,qr [0,3,4,14]),(4,qr [0,4,5,6,8,12]),(5,qr [0,5,8,12]),(6,qr [0,6,8,12]),(8,qr [0,8,9,10]),(9,qr [0,9]),(10,qr [0,10]),(7,qr [0,7,8,12]),(11,none),(12,qr [0,12]),(13,none),(14,qr [0,14]),(15,none)])]
theorem FE:aD u9 aaS.body=true:=by kernel_rfl
theorem N_:c8 aac 121 (FI.of aaS Ul u9):=c8.of Tryz.func121 rfl dZ FE Tryz.call121
def Um:aQ:=[(3,fg),(4,p_),(5,fo),(30,dY)]
theorem bE:aq aac Um:=.cons fq <| .cons qO <| .cons gh <| .cons eb <| .nil mixed
def nm:aH:=[(1,[(0,qr [1,12]),(1,qr [0,1,2,12]),(2,qr [0,2,3,14]),(3,qr [0,3,4,14]),(4,qr [0,4,5,6,8,12]),(5,qr [0,5,8,12]),(6,qr [0,6,8,12]),(8,qr [0,8,9,10]),(9,qr [0,9]),(10,qr [0,10]),(7,qr [0,7,8,12]),(11,none),(12,qr [0,12]),(13,none),(14,qr [0,14]),(15,none)]),(3,[(0,some [1]),(1,some [0]),(2,qr [0,2]),(3,qr [0,3]),(4,qr [0,4,5,6,8,12]),(5,qr [0,5,8,12]),(6,qr [0,6,8,12]),(8,qr [0,8,9,10]),(9,qr [0,9]),(10,qr [0,10]),(7,qr [0,7,8,12]),(11,none),(12,none),(13,qr [0,13])]),(5,[(0,some [1]),(1,some [0]),(2,qr [0,2]),(3,qr [0,3]),(4,qr [0,4,5,6,8,12]),(5,qr [0,5,8,12]),(6,qr [0,6,8,12]),(8,qr [0,8,9,10]),(9,qr [0,9]),(10,qr [0,10]),(7,qr [0,7,8,12]),(11,none),(12,none),(13,qr [0,13]),(14,qr [0,14])]),(8,[(0,qr [1,12]),(1,qr [0,1,2,12]),(2,qr [0,2,3,14]),(3,qr [0,3,4,14]),(4,qr [0,4,5,6,8,12]),(5,qr [0,5,8,12]),(6,qr [0,6,8,12]),(8,qr [0,8,9,10]),(9,qr [0,9]),(10,qr [0,10]),(7,qr [0,7,8,12]),(11,none),(12,qr [0,12]),(13,none),(14,qr [0,14]),(15,none)]),(10,[(0,qr [1,12]),(1,qr [0,1,2,12]),(2,qr [0,2,3,14]),(3,qr [0,3,4,14]),(4,qr [0,4,5,6,8,12]),(5,qr [0,5,8,12]),(6,qr [0,6,8,12]),(8,qr [0,8,9,10]),(9,qr [0,9]),(10,qr [0,10]),(7,qr [0,7,8,12]),(11,none),(12,qr [0,12]),(13,none),(14,qr [0,14]),(15,none)]),(13,[(0,some [1]),(1,some [0]),(2,qr [0,2]),(3,qr [0,3]),(4,qr [0,4,5,6,8,12]),(5,qr [0,5,8,12]),(6,qr [0,6,8,12]),(8,qr [0,8,9,10]),(9,qr [0,9]),(10,qr [0,10]),(7,qr [0,7,8,12]),(11,none),(12,none),(13,qr [0,13])]),(15,[(0,some [1]),(1,some [0]),(2,qr [0,2]),(3,qr [0,3]),(4,qr [0,4,5,6,8,12]),(5,qr [0,5,8,12]),(6,qr [0,6,8,12]),(8,qr [0,8,9,10]),(9,qr [0,9]),(10,qr [0,10]),(7,qr [0,7,8,12]),(11,none),(12,none),(13,qr [0,13]),(14,qr [0,14])]),(18,[(0,qr [1,12]),(1,qr [0,1,2,12]),(2,qr [0,2,3,14]),(3,qr [0,3,4,14]),(4,qr [0,4,5,6,8,12]),(5,qr [0,5,8,12]),(6,qr [0,6,8,12]),(8,qr [0,8,9,10]),(9,qr [0,9]),(10,qr [0,10]),(7,qr [0,7,8,12]),(11,none),(12,qr [0,12]),(13,none),(14,qr [0,14]),(15,none)]),(21,[(0,qr [1,12]),(1,qr [0,1,2,12]),(2,qr [0,2,3,14]),(3,qr [0,3,4,14]),(4,qr [0,4,5,6,8,12]),(5,qr [0,5,8,12]),(6,qr [0,6,8,12]),(8,qr [0,8,9,10]),(9,qr [0,9]),(10,qr [0,10]),(7,qr [0,7,8,12]),(11,none),(12,qr [0,12]),(13,none),(14,qr [0,14]),(15,none)])]
theorem FF:aD nm aaT.body=true:=by kernel_rfl
theorem Oa:c8 aac 122 (FI.of aaT Um nm):=c8.of Tryz.func122 rfl bE FF Tryz.call122
def abO:aQ:=[(29,e_)]
theorem FP:aq aac abO:=.cons fp <| .nil mixed
def abg:aH:=[]
theorem Ny:aD abg Tryz.f123.body=true:=by kernel_rfl
def Un:aQ:=[(3,fg),(135,gD),(148,dB)]
theorem OH:aq aac Un:=.cons fq <| .cons gM <| .cons fY <| .nil mixed
def Sg:aH:=[(4,[(0,some [1]),(1,some [0]),(2,qr [0,2]),(3,qr [0,3]),(4,qr [0,4,5,14]),(5,qr [0,5,6,7,9,14]),(6,qr [0,6,9,14]),(7,qr [0,7,9,14]),(9,qr [0,9,10,12]),(10,qr [0,10]),(11,qr [0,11]),(12,qr [0,12]),(8,qr [0,8,9,14]),(13,none),(14,none),(15,qr [0,15]),(16,qr [0,16])]),(6,[(0,qr [1,14]),(1,qr [0,1,2,14]),(2,qr [0,2,3,16]),(3,qr [0,3,5,16]),(4,qr [0,4,5,16]),(5,qr [0,5,6,8,10,14]),(6,qr [0,6,10,14]),(7,qr [0,7,10,14]),(8,qr [0,8,10,14]),(10,qr [0,10,11,12]),(11,qr [0,11]),(12,qr [0,12]),(9,qr [0,9,10,14]),(13,none),(14,qr [0,14]),(15,none),(16,qr [0,16]),(17,none)])]
theorem Nz:aD Sg aaU.body=true:=by kernel_rfl
theorem Oc:c8 aac 124 (FI.of aaU Un Sg):=c8.of Tryz.func124 rfl OH Nz Tryz.call124
def Uo:aQ:=[(3,fg),(135,gD),(148,dB),(155,ui)]
theorem OI:aq aac Uo:=.cons fq <| .cons gM <| .cons fY <| .cons xo <| .nil mixed
def Si:aH:=[(10,[(0,qr [1,16]),(1,qr [0,1,2,16]),(2,qr [0,2,3,18]),(3,qr [0,3,4,5,6,18]),(4,qr [0,4,6,18]),(5,qr [0,5,6,18]),(6,qr [0,6,7,10,12,16]),(7,qr [0,7,8,9,12,16]),(8,qr [0,8,12,16]),(9,qr [0,9,12,16]),(10,qr [0,10,12,16]),(12,qr [0,12,13,14]),(13,qr [0,13]),(14,qr [0,14]),(11,qr [0,11,12,16]),(15,none),(16,qr [0,16]),(17,none),(18,qr [0,18]),(19,none)])]
theorem NA:aD Si aaV.body=true:=by kernel_rfl
theorem Od:c8 aac 125 (FI.of aaV Uo Si):=c8.of Tryz.func125 rfl OI NA Tryz.call125
def Uq:aQ:=[(3,fg),(113,xg),(135,gD),(140,Hd),(148,dB)]
theorem OJ:aq aac Uq:=.cons fq <| .cons zt <| .cons gM <| .cons Mx <| .cons fY <| .nil mixed
def Sj:aH:=[(10,[(0,qr [1,16]),(1,qr [0,1,2,16]),(2,qr [0,2,3,18]),(3,qr [0,3,4,5,6,18]),(4,qr [0,4,6,18]),(5,qr [0,5,6,18]),(6,qr [0,6,7,10,12,16]),(7,qr [0,7,8,9,12,16]),(8,qr [0,8,12,16]),(9,qr [0,9,12,16]),(10,qr [0,10,12,16]),(12,qr [0,12,13,14]),(13,qr [0,13]),(14,qr [0,14]),(11,qr [0,11,12,16]),(15,none),(16,qr [0,16]),(17,none),(18,qr [0,18]),(19,none)])]
theorem NB:aD Sj aaW.body=true:=by kernel_rfl
theorem Oe:c8 aac 126 (FI.of aaW Uq Sj):=c8.of Tryz.func126 rfl OJ NB Tryz.call126
def Ur:aQ:=[(3,fg),(135,gD),(144,xh),(148,dB),(155,ui)]
theorem OK:aq aac Ur:=.cons fq <| .cons gM <| .cons zu <| .cons fY <| .cons xo <| .nil mixed
def Sk:aH:=[]
theorem NC:aD Sk aaX.body=true:=by kernel_rfl
theorem Og:c8 aac 127 (FI.of aaX Ur Sk):=c8.of Tryz.func127 rfl OK NC Tryz.call127
def Us:aQ:=[(3,fg),(135,gD),(148,dB)]
theorem OL:aq aac Us:=.cons fq <| .cons gM <| .cons fY <| .nil mixed
def Sl:aH:=[(3,[(0,qr [1,12]),(1,qr [0,1,2,12]),(2,qr [0,2,3,14]),(3,qr [0,3,4,14]),(4,qr [0,4,5,6,8,12]),(5,qr [0,5,8,12]),(6,qr [0,6,8,12]),(8,qr [0,8,9,10]),(9,qr [0,9]),(10,qr [0,10]),(7,qr [0,7,8,12]),(11,none),(12,qr [0,12]),(13,none),(14,qr [0,14]),(15,none)])]
theorem ND:aD Sl aaY.body=true:=by kernel_rfl
theorem Oh:c8 aac 128 (FI.of aaY Us Sl):=c8.of Tryz.func128 rfl OL ND Tryz.call128
def Ut:aQ:=[(3,fg),(4,p_),(135,gD),(148,dB)]
theorem OM:aq aac Ut:=.cons fq <| .cons qO <| .cons gM <| .cons fY <| .nil mixed
def Sm:aH:=[(5,[(0,some [1]),(1,some [0]),(2,qr [0,2]),(3,qr [0,3]),(4,qr [0,4,5,14]),(5,qr [0,5,6,7,9,14]),(6,qr [0,6,9,14]),(7,qr [0,7,9,14]),(9,qr [0,9,10,12]),(10,qr [0,10]),(11,qr [0,11]),(12,qr [0,12]),(8,qr [0,8,9,14]),(13,none),(14,none),(15,qr [0,15]),(16,qr [0,16]),(17,qr [0,17])]),(11,[(0,qr [1,14]),(1,qr [0,1,2,14]),(2,qr [0,2,3,16]),(3,qr [0,3,5,16]),(4,qr [0,4,5,16]),(5,qr [0,5,6,8,10,14]),(6,qr [0,6,10,14]),(7,qr [0,7,10,14]),(8,qr [0,8,10,14]),(10,qr [0,10,11,12]),(11,qr [0,11]),(12,qr [0,12]),(9,qr [0,9,10,14]),(13,none),(14,qr [0,14]),(15,none),(16,qr [0,16]),(17,none)]),(16,[(0,qr [1,10]),(1,qr [0,1,2,3,5,10]),(2,qr [0,2,5,10]),(3,qr [0,3,5,10]),(5,qr [0,5,6,8]),(6,qr [0,6]),(7,qr [0,7]),(8,qr [0,8]),(4,qr [0,4,5,10]),(9,none),(10,none),(11,qr [0,11]),(12,qr [0,12])]),(17,[(0,qr [1,14]),(1,qr [0,1,2,14]),(2,qr [0,2,3,16]),(3,qr [0,3,5,16]),(4,qr [0,4,5,16]),(5,qr [0,5,6,8,10,14]),(6,qr [0,6,10,14]),(7,qr [0,7,10,14]),(8,qr [0,8,10,14]),(10,qr [0,10,11,12]),(11,qr [0,11]),(12,qr [0,12]),(9,qr [0,9,10,14]),(13,none),(14,qr [0,14]),(15,none),(16,qr [0,16]),(17,none)]),(22,[(0,qr [1,10]),(1,qr [0,1,2,3,5,10]),(2,qr [0,2,5,10]),(3,qr [0,3,5,10]),(5,qr [0,5,6,8]),(6,qr [0,6]),(7,qr [0,7]),(8,qr [0,8]),(4,qr [0,4,5,10]),(9,none),(10,none),(11,qr [0,11]),(12,qr [0,12])]),(23,[(0,qr [1,14]),(1,qr [0,1,2,14]),(2,qr [0,2,3,16]),(3,qr [0,3,5,16]),(4,qr [0,4,5,16]),(5,qr [0,5,6,8,10,14]),(6,qr [0,6,10,14]),(7,qr [0,7,10,14]),(8,qr [0,8,10,14]),(10,qr [0,10,11,12]),(11,qr [0,11]),(12,qr [0,12]),(9,qr [0,9,10,14]),(13,none),(14,qr [0,14]),(15,none),(16,qr [0,16]),(17,none)])]
theorem NE:aD Sm aaZ.body=true:=by kernel_rfl
theorem Oi:c8 aac 129 (FI.of aaZ Ut Sm):=c8.of Tryz.func129 rfl OM NE Tryz.call129
def Uu:aQ:=[(3,fg),(4,p_),(135,gD),(148,dB)]
theorem ON:aq aac Uu:=.cons fq <| .cons qO <| .cons gM <| .cons fY <| .nil mixed
def Sp:aH:=[(1,[(0,qr [1,12]),(1,qr [0,1,2,12]),(2,qr [0,2,3,14]),(3,qr [0,3,4,14]),(4,qr [0,4,5,6,8,12]),(5,qr [0,5,8,12]),(6,qr [0,6,8,12]),(8,qr [0,8,9,10]),(9,qr [0,9]),(10,qr [0,10]),(7,qr [0,7,8,12]),(11,none),(12,qr [0,12]),(13,none),(14,qr [0,14]),(15,none)]),(3,[(0,some [1]),(1,some [0]),(2,qr [0,2]),(3,qr [0,3]),(4,qr [0,4,5,13]),(5,qr [0,5,6,7,9,13]),(6,qr [0,6,9,13]),(7,qr [0,7,9,13]),(9,qr [0,9,10,11]),(10,qr [0,10]),(11,qr [0,11]),(8,qr [0,8,9,13]),(12,none),(13,none),(14,qr [0,14]),(15,qr [0,15]),(16,qr [0,16])]),(5,[(0,some [1]),(1,some [0]),(2,qr [0,2]),(3,qr [0,3]),(4,qr [0,4,5,13]),(5,qr [0,5,6,7,9,13]),(6,qr [0,6,9,13]),(7,qr [0,7,9,13]),(9,qr [0,9,10,11]),(10,qr [0,10]),(11,qr [0,11]),(8,qr [0,8,9,13]),(12,none),(13,none),(14,qr [0,14]),(15,qr [0,15])]),(8,[(0,qr [1,12]),(1,qr [0,1,2,12]),(2,qr [0,2,3,14]),(3,qr [0,3,4,14]),(4,qr [0,4,5,6,8,12]),(5,qr [0,5,8,12]),(6,qr [0,6,8,12]),(8,qr [0,8,9,10]),(9,qr [0,9]),(10,qr [0,10]),(7,qr [0,7,8,12]),(11,none),(12,qr [0,12]),(13,none),(14,qr [0,14]),(15,none)])]
theorem NF:aD Sp aa0.body=true:=by kernel_rfl
theorem Oj:c8 aac 130 (FI.of aa0 Uu Sp):=c8.of Tryz.func130 rfl ON NF Tryz.call130
def Uv:aQ:=[(3,fg),(4,p_),(135,gD),(148,dB)]
theorem OO:aq aac Uv:=.cons fq <| .cons qO <| .cons gM <| .cons fY <| .nil mixed
def Sq:aH:=[(1,[(0,qr [1,12]),(1,qr [0,1,2,12]),(2,qr [0,2,3,14]),(3,qr [0,3,4,14]),(4,qr [0,4,5,6,8,12]),(5,qr [0,5,8,12]),(6,qr [0,6,8,12]),(8,qr [0,8,9,10]),(9,qr [0,9]),(10,qr [0,10]),(7,qr [0,7,8,12]),(11,none),(12,qr [0,12]),(13,none),(14,qr [0,14]),(15,none)]),(3,[(0,some [1]),(1,some [0]),(2,qr [0,2]),(3,qr [0,3]),(4,qr [0,4,5,13]),(5,qr [0,5,6,7,9,13]),(6,qr [0,6,9,13]),(7,qr [0,7,9,13]),(9,qr [0,9,10,11]),(10,qr [0,10]),(11,qr [0,11]),(8,qr [0,8,9,13]),(12,none),(13,none),(14,qr [0,14]),(15,qr [0,15])]),(5,[(0,some [1]),(1,some [0]),(2,qr [0,2]),(3,qr [0,3]),(4,qr [0,4,5,13]),(5,qr [0,5,6,7,9,13]),(6,qr [0,6,9,13]),(7,qr [0,7,9,13]),(9,qr [0,9,10,11]),(10,qr [0,10]),(11,qr [0,11]),(8,qr [0,8,9,13]),(12,none),(13,none),(14,qr [0,14]),(15,qr [0,15]),(16,qr [0,16])]),(8,[(0,qr [1,12]),(1,qr [0,1,2,12]),(2,qr [0,2,3,14]),(3,qr [0,3,4,14]),(4,qr [0,4,5,6,8,12]),(5,qr [0,5,8,12]),(6,qr [0,6,8,12]),(8,qr [0,8,9,10]),(9,qr [0,9]),(10,qr [0,10]),(7,qr [0,7,8,12]),(11,none),(12,qr [0,12]),(13,none),(14,qr [0,14]),(15,none)]),(10,[(0,qr [1,12]),(1,qr [0,1,2,12]),(2,qr [0,2,3,14]),(3,qr [0,3,4,14]),(4,qr [0,4,5,6,8,12]),(5,qr [0,5,8,12]),(6,qr [0,6,8,12]),(8,qr [0,8,9,10]),(9,qr [0,9]),(10,qr [0,10]),(7,qr [0,7,8,12]),(11,none),(12,qr [0,12]),(13,none),(14,qr [0,14]),(15,none)]),(13,[(0,some [1]),(1,some [0]),(2,qr [0,2]),(3,qr [0,3]),(4,qr [0,4,5,13]),(5,qr [0,5,6,7,9,13]),(6,qr [0,6,9,13]),(7,qr [0,7,9,13]),(9,qr [0,9,10,11]),(10,qr [0,10]),(11,qr [0,11]),(8,qr [0,8,9,13]),(12,none),(13,none),(14,qr [0,14]),(15,qr [0,15])]),(15,[(0,some [1]),(1,some [0]),(2,qr [0,2]),(3,qr [0,3]),(4,qr [0,4,5,13]),(5,qr [0,5,6,7,9,13]),(6,qr [0,6,9,13]),(7,qr [0,7,9,13]),(9,qr [0,9,10,11]),(10,qr [0,10]),(11,qr [0,11]),(8,qr [0,8,9,13]),(12,none),(13,none),(14,qr [0,14]),(15,qr [0,15]),(16,qr [0,16])]),(18,[(0,qr [1,12]),(1,qr [0,1,2,12]),(2,qr [0,2,3,14]),(3,qr [0,3,4,14]),(4,qr [0,4,5,6,8,12]),(5,qr [0,5,8,12]),(6,qr [0,6,8,12]),(8,qr [0,8,9,10]),(9,qr [0,9]),(10,qr [0,10]),(7,qr [0,7,8,12]),(11,none),(12,qr [0,12]),(13,none),(14,qr [0,14]),(15,none)]),(21,[(0,qr [1,12]),(1,qr [0,1,2,12]),(2,qr [0,2,3,14]),(3,qr [0,3,4,14]),(4,qr [0,4,5,6,8,12]),(5,qr [0,5,8,12]),(6,qr [0,6,8,12]),(8,qr [0,8,9,10]),(9,qr [0,9]),(10,qr [0,10]),(7,qr [0,7,8,12]),(11,none),(12,qr [0,12]),(13,none),(14,qr [0,14]),(15,none)])]
theorem NG:aD Sq aa1.body=true:=by kernel_rfl
theorem Ol:c8 aac 131 (FI.of aa1 Uv Sq):=c8.of Tryz.func131 rfl OO NG Tryz.call131
def Uw:aQ:=[(3,fg),(4,p_),(5,fo),(30,dY)]
theorem fj:aq aac Uw:=.cons fq <| .cons qO <| .cons gh <| .cons eb <| .nil mixed
def Jj:aH:=[(3,[(0,some [2]),(1,some [0,2]),(2,qr [0,2]),(3,qr [0,3]),(4,qr [0,4]),(5,qr [0,5,6,9,11,18]),(6,qr [0,6,7,8,11,18]),(7,qr [0,7,11,18]),(8,qr [0,8,11,18]),(9,qr [0,9,11,18]),(11,qr [0,11,12,16]),(12,qr [0,12,13,14]),(13,qr [0,13]),(14,qr [0,14]),(15,qr [0,15]),(16,qr [0,16]),(10,qr [0,10,11,18]),(17,none),(18,none),(19,qr [0,19])]),(5,[(0,qr [1,4,6,12]),(1,qr [0,1,2,3,6,12]),(2,qr [0,2,6,12]),(3,qr [0,3,6,12]),(4,qr [0,4,6,12]),(6,qr [0,6,7,10]),(7,qr [0,7,8,9]),(8,qr [0,8]),(9,qr [0,9]),(10,qr [0,10]),(5,qr [0,5,6,12]),(11,none),(12,none),(13,qr [0,13])]),(6,[(0,qr [1,20]),(1,qr [0,1,2,3,4,20]),(2,qr [0,2,4,20]),(3,qr [0,3,4,20]),(4,qr [0,4,5,22]),(5,qr [0,5,6,7,8,22]),(6,qr [0,6,8,22]),(7,qr [0,7,8,22]),(8,qr [0,8,9,12,14,20]),(9,qr [0,9,10,11,14,20]),(10,qr [0,10,14,20]),(11,qr [0,11,14,20]),(12,qr [0,12,14,20]),(14,qr [0,14,15,18]),(15,qr [0,15,16,17]),(16,qr [0,16]),(17,qr [0,17]),(18,qr [0,18]),(13,qr [0,13,14,20]),(19,none),(20,qr [0,20]),(21,none),(22,qr [0,22]),(23,none)])]
theorem FG:aD Jj aa2.body=true:=by kernel_rfl
theorem Om:c8 aac 132 (FI.of aa2 Uw Jj):=c8.of Tryz.func132 rfl fj FG Tryz.call132
def Ux:aQ:=[(3,fg),(5,fo),(30,dY),(144,xh)]
theorem uH:aq aac Ux:=.cons fq <| .cons gh <| .cons eb <| .cons zu <| .nil mixed
def Sr:aH:=[]
theorem FH:aD Sr aa3.body=true:=by kernel_rfl
theorem On:c8 aac 133 (FI.of aa3 Ux Sr):=c8.of Tryz.func133 rfl uH FH Tryz.call133
def Uy:aQ:=[(3,fg),(5,fo),(30,dY),(144,xh)]
theorem oS:aq aac Uy:=.cons fq <| .cons gh <| .cons eb <| .cons zu <| .nil mixed
def NH:aH:=[]
theorem FJ:aD NH aa4.body=true:=by kernel_rfl
theorem Oo:c8 aac 134 (FI.of aa4 Uy NH):=c8.of Tryz.func134 rfl oS FJ Tryz.call134
def Uz:aQ:=[(3,fg),(4,p_),(135,gD),(148,dB)]
theorem OP:aq aac Uz:=.cons fq <| .cons qO <| .cons gM <| .cons fY <| .nil mixed
def Ss:aH:=[(3,[(0,some [2]),(1,some [0,2]),(2,qr [0,2]),(3,qr [0,3]),(4,qr [0,4]),(5,qr [0,5,6,19]),(6,qr [0,6,7,10,12,19]),(7,qr [0,7,8,9,12,19]),(8,qr [0,8,12,19]),(9,qr [0,9,12,19]),(10,qr [0,10,12,19]),(12,qr [0,12,13,17]),(13,qr [0,13,14,15]),(14,qr [0,14]),(15,qr [0,15]),(16,qr [0,16]),(17,qr [0,17]),(11,qr [0,11,12,19]),(18,none),(19,none),(20,qr [0,20]),(21,qr [0,21])]),(5,[(0,qr [1,13]),(1,qr [0,1,2,5,7,13]),(2,qr [0,2,3,4,7,13]),(3,qr [0,3,7,13]),(4,qr [0,4,7,13]),(5,qr [0,5,7,13]),(7,qr [0,7,8,11]),(8,qr [0,8,9,10]),(9,qr [0,9]),(10,qr [0,10]),(11,qr [0,11]),(6,qr [0,6,7,13]),(12,none),(13,none),(14,qr [0,14]),(15,qr [0,15])]),(6,[(0,qr [1,20]),(1,qr [0,1,2,3,4,20]),(2,qr [0,2,4,20]),(3,qr [0,3,4,20]),(4,qr [0,4,5,22]),(5,qr [0,5,6,7,8,22]),(6,qr [0,6,8,22]),(7,qr [0,7,8,22]),(8,qr [0,8,9,12,14,20]),(9,qr [0,9,10,11,14,20]),(10,qr [0,10,14,20]),(11,qr [0,11,14,20]),(12,qr [0,12,14,20]),(14,qr [0,14,15,18]),(15,qr [0,15,16,17]),(16,qr [0,16]),(17,qr [0,17]),(18,qr [0,18]),(13,qr [0,13,14,20]),(19,none),(20,qr [0,20]),(21,none),(22,qr [0,22]),(23,none)])]
theorem NI:aD Ss aa5.body=true:=by kernel_rfl
theorem Oq:c8 aac 135 (FI.of aa5 Uz Ss):=c8.of Tryz.func135 rfl OP NI Tryz.call135
def UA:aQ:=[(3,fg),(135,gD),(144,xh),(148,dB),(155,ui)]
theorem OQ:aq aac UA:=.cons fq <| .cons gM <| .cons zu <| .cons fY <| .cons xo <| .nil mixed
def Su:aH:=[]
theorem NJ:aD Su aa6.body=true:=by kernel_rfl
theorem Ot:c8 aac 136 (FI.of aa6 UA Su):=c8.of Tryz.func136 rfl OQ NJ Tryz.call136
def UB:aQ:=[(3,fg),(135,gD),(144,xh),(148,dB),(155,ui)]
theorem OS:aq aac UB:=.cons fq <| .cons gM <| .cons zu <| .cons fY <| .cons xo <| .nil mixed
def Sv:aH:=[]
theorem NK:aD Sv aa7.body=true:=by kernel_rfl
theorem Ou:c8 aac 137 (FI.of aa7 UB Sv):=c8.of Tryz.func137 rfl OS NK Tryz.call137
def UC:aQ:=[(3,fg),(5,fo),(30,dY)]
theorem oT:aq aac UC:=.cons fq <| .cons gh <| .cons eb <| .nil mixed
def NL:aH:=[(1,[(0,qr [1,2,4,8]),(1,qr [0,1,4,8]),(2,qr [0,2,4,8]),(4,qr [0,4,5,6]),(5,qr [0,5]),(6,qr [0,6]),(3,qr [0,3,4,8]),(7,none),(8,none)])]
theorem FK:aD NL aa8.body=true:=by kernel_rfl
theorem Ov:c8 aac 138 (FI.of aa8 UC NL):=c8.of Tryz.func138 rfl oT FK Tryz.call138
def UD:aQ:=[(3,fg),(135,gD),(148,dB)]
theorem OT:aq aac UD:=.cons fq <| .cons gM <| .cons fY <| .nil mixed
def Sw:aH:=[(1,[(0,qr [1,9]),(1,qr [0,1,2,3,5,9]),(2,qr [0,2,5,9]),(3,qr [0,3,5,9]),(5,qr [0,5,6,7]),(6,qr [0,6]),(7,qr [0,7]),(4,qr [0,4,5,9]),(8,none),(9,none),(10,qr [0,10])])]
theorem NM:aD Sw aa9.body=true:=by kernel_rfl
theorem Ow:c8 aac 139 (FI.of aa9 UD Sw):=c8.of Tryz.func139 rfl OT NM Tryz.call139
noncomputable def abI:FT:=[(21,FI.of aaf T21 B21),(22,FI.of aag T22 DH),(26,FI.of aah T26 QV),(28,FI.of aai T28 WB),(44,FI.of aaj T44 B44),(45,FI.of aak T45 B45),(46,FI.of aal T46 B46),(47,FI.of aam T47 B47),(56,FI.of aan T56 B56),(58,FI.of aao T58 B58),(60,FI.of aap T60 B60),(61,FI.of aaq T61 B61),(62,FI.of aar T62 B62),(63,FI.of aas T63 B63),(77,FI.of aau T77 B77),(78,FI.of aav T78 B78),(79,FI.of aaw T79 B79),(80,FI.of aax T80 B80),(89,FI.of aay Xy BD),(90,FI.of aaz T90 B90),(92,FI.of aaA T92 B92),(93,FI.of aaB T93 B93),(100,FI.of aaC T1 R6),(103,FI.of aaD T2 R7),(104,FI.of aaE T3 R8),(105,FI.of aaF T4 R9),(106,FI.of aaG T_ R_),(107,FI.of aaH Ua um),(111,FI.of aaI Ub Sa),(112,FI.of aaJ Uc Sb),(113,FI.of aaK Ud Sc),(114,FI.of aaL Ue DF),(115,FI.of aaM Uf DG),(116,FI.of aaN Ug zE),(117,FI.of aaO Uh Sd),(118,FI.of aaP Ui Ji),(119,FI.of aaQ Uj pB),(120,FI.of aaR Uk Sf),(121,FI.of aaS Ul u9),(122,FI.of aaT Um nm),(124,FI.of aaU Un Sg),(125,FI.of aaV Uo Si),(126,FI.of aaW Uq Sj),(127,FI.of aaX Ur Sk),(128,FI.of aaY Us Sl),(129,FI.of aaZ Ut Sm),(130,FI.of aa0 Uu Sp),(131,FI.of aa1 Uv Sq),(132,FI.of aa2 Uw Jj),(133,FI.of aa3 Ux Sr),(134,FI.of aa4 Uy NH),(135,FI.of aa5 Uz Ss),(136,FI.of aa6 UA Su),(137,FI.of aa7 UB Sv),(138,FI.of aa8 UC NL),(139,FI.of aa9 UD Sw)]
theorem ep:uo aac abI:=.cons Tx <| .cons Ty <| .cons Jo <| .cons Jp <| .cons Tz <| .cons TA <| .cons TB <| .cons TC <| .cons TD <| .cons TE <| .cons TG <| .cons TH <| .cons TJ <| .cons TL <| .cons TM <| .cons TN <| .cons TP <| .cons TQ <| .cons TR <| .cons TS <| .cons TT <| .cons TU <| .cons NQ <| .cons NR <| .cons NS <| .cons NT <| .cons NU <| .cons NV <| .cons NW <| .cons NX <| .cons NY <| .cons NZ <| .cons N4 <| .cons N5 <| .cons N6 <| .cons N7 <| .cons N8 <| .cons N9 <| .cons N_ <| .cons Oa <| .cons Oc <| .cons Od <| .cons Oe <| .cons Og <| .cons Oh <| .cons Oi <| .cons Oj <| .cons Ol <| .cons Om <| .cons On <| .cons Oo <| .cons Oq <| .cons Ot <| .cons Ou <| .cons Ov <| .cons Ow .nil
end Go.Proofs.YthpbefahaghbjaaGreat
