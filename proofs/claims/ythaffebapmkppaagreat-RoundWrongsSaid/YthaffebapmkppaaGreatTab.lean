import Derived.Test.YthaffebapmkppaaGreatProg
import Derived.Test.YthaffebapmkppaaGreatEC
namespace Go.Proofs.YthaffebapmkppaaGreat
open Go.Eng
theorem mixed:Tryz.prog.follows .mixedOrders=true:=by kernel_rfl
def ti2:TI:=⟨false,1,8,[.int .i64 (.lit 0)],.int .i64,none⟩
theorem tk2:TI.of Tryz.prog 2=some ti2:=by kernel_rfl
def ti3:TI:=⟨false,1,8,[.int .i64 (.lit 0)],.int .i64,none⟩
theorem tk3:TI.of Tryz.prog 3=some ti3:=by kernel_rfl
def ti4:TI:=⟨false,1,1,[.bool (.lit false)],.bool,none⟩
theorem tk4:TI.of Tryz.prog 4=some ti4:=by kernel_rfl
def ti5:TI:=⟨false,1,1,[.int .u8 (.lit 0)],.int .u8,none⟩
theorem tk5:TI.of Tryz.prog 5=some ti5:=by kernel_rfl
def ti9:TI:=⟨false,1,16,[.raw (Value.string { data:=#[] })],.string,none⟩
theorem tk9:TI.of Tryz.prog 9=some ti9:=by kernel_rfl
def ti22:TI:=⟨false,1,8,[.int .u64 (.lit 0)],.int .u64,none⟩
theorem tk22:TI.of Tryz.prog 22=some ti22:=by kernel_rfl
def ti23:TI:=⟨false,1,24,[.raw (Value.slice none 0 0)],.slice 5,none⟩
theorem tk23:TI.of Tryz.prog 23=some ti23:=by kernel_rfl
def ti25:TI:=⟨true,3,56,[.int .u64 (.lit 0),.raw (Value.slice none 0 0),.raw (Value.slice none 0 0)],.struct [(0,1,false),(1,1,false),(2,1,false)],none⟩
theorem tk25:TI.of Tryz.prog 25=some ti25:=by kernel_rfl
def ti26:TI:=⟨false,1,4,[.int .u32 (.lit 0)],.int .u32,none⟩
theorem tk26:TI.of Tryz.prog 26=some ti26:=by kernel_rfl
def ti28:TI:=⟨true,3,16,[.int .u64 (.lit 0),.int .u8 (.lit 0),.int .u32 (.lit 0)],.struct [(0,1,false),(1,1,false),(2,1,false)],some [true,true,true]⟩
theorem tk28:TI.of Tryz.prog 28=some ti28:=by kernel_rfl
def ti29:TI:=⟨false,1,24,[.raw (Value.slice none 0 0)],.slice 2,none⟩
theorem tk29:TI.of Tryz.prog 29=some ti29:=by kernel_rfl
def ti30:TI:=⟨false,1,24,[.raw (Value.slice none 0 0)],.slice 94,none⟩
theorem tk30:TI.of Tryz.prog 30=some ti30:=by kernel_rfl
def ti31:TI:=⟨false,1,24,[.raw (Value.slice none 0 0)],.slice 148,none⟩
theorem tk31:TI.of Tryz.prog 31=some ti31:=by kernel_rfl
def ti32:TI:=⟨false,1,24,[.raw (Value.slice none 0 0)],.slice 151,none⟩
theorem tk32:TI.of Tryz.prog 32=some ti32:=by kernel_rfl
def ti34:TI:=⟨true,8,128,[.int .u8 (.lit 0),.int .u64 (.lit 0),.int .i64 (.lit 0),.raw (Value.slice none 0 0),.raw (Value.slice none 0 0),.raw (Value.slice none 0 0),.int .u64 (.lit 0),.raw (Value.slice none 0 0)],.struct [(0,1,false),(1,1,false),(2,1,false),(3,1,false),(4,1,false),(5,1,false),(6,1,false),(7,1,false)],none⟩
theorem tk34:TI.of Tryz.prog 34=some ti34:=by kernel_rfl
def ti41:TI:=⟨true,25,264,[.int .u8 (.lit 0),.int .u64 (.lit 0),.raw (Value.slice none 0 0),.raw (Value.slice none 0 0),.int .u64 (.lit 0),.int .u8 (.lit 0),.int .u32 (.lit 0),.bool (.lit false),.int .u8 (.lit 0),.int .u64 (.lit 0),.int .u64 (.lit 0),.int .u8 (.lit 0),.int .u32 (.lit 0),.int .u8 (.lit 0),.int .u64 (.lit 0),.int .i64 (.lit 0),.raw (Value.slice none 0 0),.raw (Value.slice none 0 0),.raw (Value.slice none 0 0),.int .u64 (.lit 0),.raw (Value.slice none 0 0),.int .u64 (.lit 0),.int .u8 (.lit 0),.int .u32 (.lit 0),.int .u64 (.lit 0)],.struct [(0,1,false),(1,3,true),(4,3,true),(7,1,false),(8,1,false),(9,1,false),(10,3,true),(13,8,true),(21,3,true),(24,1,false)],none⟩
theorem tk41:TI.of Tryz.prog 41=some ti41:=by kernel_rfl
def ti42:TI:=⟨false,1,8,[.int .i64 (.lit 0)],.int .i64,none⟩
theorem tk42:TI.of Tryz.prog 42=some ti42:=by kernel_rfl
def ti53:TI:=⟨false,1,24,[.raw (Value.slice none 0 0)],.slice 56,none⟩
theorem tk53:TI.of Tryz.prog 53=some ti53:=by kernel_rfl
def ti56:TI:=⟨true,24,208,[.int .u8 (.lit 0),.int .u8 (.lit 0),.int .u8 (.lit 0),.int .u8 (.lit 0),.int .u64 (.lit 0),.int .u64 (.lit 0),.int .u8 (.lit 0),.int .u32 (.lit 0),.bool (.lit false),.int .u64 (.lit 0),.int .u8 (.lit 0),.int .u32 (.lit 0),.int .u8 (.lit 0),.int .u64 (.lit 0),.int .i64 (.lit 0),.raw (Value.slice none 0 0),.raw (Value.slice none 0 0),.raw (Value.slice none 0 0),.int .u64 (.lit 0),.raw (Value.slice none 0 0),.int .u64 (.lit 0),.int .u8 (.lit 0),.int .u32 (.lit 0),.int .u64 (.lit 0)],.struct [(0,1,false),(1,1,false),(2,1,false),(3,1,false),(4,1,false),(5,3,true),(8,1,false),(9,3,true),(12,8,true),(20,3,true),(23,1,false)],none⟩
theorem tk56:TI.of Tryz.prog 56=some ti56:=by kernel_rfl
def ti63:TI:=⟨true,17,224,[.int .u64 (.lit 0),.raw (Value.slice none 0 0),.raw (Value.slice none 0 0),.int .u8 (.lit 0),.int .u64 (.lit 0),.int .u8 (.lit 0),.int .u32 (.lit 0),.bool (.lit false),.int .u8 (.lit 0),.int .u64 (.lit 0),.int .i64 (.lit 0),.raw (Value.slice none 0 0),.raw (Value.slice none 0 0),.raw (Value.slice none 0 0),.int .u64 (.lit 0),.raw (Value.slice none 0 0),.bool (.lit false)],.struct [(0,3,true),(3,1,false),(4,3,true),(7,1,false),(8,8,true),(16,1,false)],none⟩
theorem tk63:TI.of Tryz.prog 63=some ti63:=by kernel_rfl
def ti92:TI:=⟨true,4,48,[.int .i64 (.lit 0),.int .u64 (.lit 0),.int .i64 (.lit 0),.raw (Value.slice none 0 0)],.struct [(0,1,false),(1,1,false),(2,1,false),(3,1,false)],none⟩
theorem tk92:TI.of Tryz.prog 92=some ti92:=by kernel_rfl
def ti94:TI:=⟨true,6,64,[.int .u8 (.lit 0),.int .u64 (.lit 0),.int .i64 (.lit 0),.int .u64 (.lit 0),.int .i64 (.lit 0),.raw (Value.slice none 0 0)],.struct [(0,1,false),(1,1,false),(2,4,true)],none⟩
theorem tk94:TI.of Tryz.prog 94=some ti94:=by kernel_rfl
def ti139:TI:=⟨false,1,24,[.raw (Value.slice none 0 0)],.slice 23,none⟩
theorem tk139:TI.of Tryz.prog 139=some ti139:=by kernel_rfl
def ti148:TI:=⟨true,4,32,[.int .u64 (.lit 0),.int .u8 (.lit 0),.int .i64 (.lit 0),.int .i64 (.lit 0)],.struct [(0,1,false),(1,1,false),(2,1,false),(3,1,false)],some [true,true,true,true]⟩
theorem tk148:TI.of Tryz.prog 148=some ti148:=by kernel_rfl
def ti151:TI:=⟨true,3,24,[.int .u8 (.lit 0),.int .u64 (.lit 0),.int .u64 (.lit 0)],.struct [(0,1,false),(1,1,false),(2,1,false)],some [true,true,true]⟩
theorem tk151:TI.of Tryz.prog 151=some ti151:=by kernel_rfl
def ti168:TI:=⟨false,1,8,[.int .u64 (.lit 0)],.int .u64,none⟩
theorem tk168:TI.of Tryz.prog 168=some ti168:=by kernel_rfl
def ti170:TI:=⟨false,1,24,[.raw (Value.slice none 0 0)],.slice 205,none⟩
theorem tk170:TI.of Tryz.prog 170=some ti170:=by kernel_rfl
def ti175:TI:=⟨false,1,24,[.raw (Value.slice none 0 0)],.slice 3,none⟩
theorem tk175:TI.of Tryz.prog 175=some ti175:=by kernel_rfl
def ti181:TI:=⟨false,1,8,[.raw (Value.nilFunc)],.other,none⟩
theorem tk181:TI.of Tryz.prog 181=some ti181:=by kernel_rfl
def ti183:TI:=⟨false,1,8,[.raw (Value.nilFunc)],.other,none⟩
theorem tk183:TI.of Tryz.prog 183=some ti183:=by kernel_rfl
def ti185:TI:=⟨false,1,8,[.raw (Value.nilFunc)],.other,none⟩
theorem tk185:TI.of Tryz.prog 185=some ti185:=by kernel_rfl
def ti187:TI:=⟨false,1,8,[.raw (Value.nilFunc)],.other,none⟩
theorem tk187:TI.of Tryz.prog 187=some ti187:=by kernel_rfl
def ti189:TI:=⟨false,1,8,[.raw (Value.nilFunc)],.other,none⟩
theorem tk189:TI.of Tryz.prog 189=some ti189:=by kernel_rfl
def ti191:TI:=⟨false,1,8,[.raw (Value.nilFunc)],.other,none⟩
theorem tk191:TI.of Tryz.prog 191=some ti191:=by kernel_rfl
def ti205:TI:=⟨true,2,16,[.int .u64 (.lit 0),.int .u8 (.lit 0)],.struct [(0,1,false),(1,1,false)],some [true,true]⟩
theorem tk205:TI.of Tryz.prog 205=some ti205:=by kernel_rfl
def ti211:TI:=⟨false,1,8,[.raw (Value.nilFunc)],.other,none⟩
theorem tk211:TI.of Tryz.prog 211=some ti211:=by kernel_rfl
def ti232:TI:=⟨false,1,8,[.int .i64 (.lit 0)],.int .i64,none⟩
theorem tk232:TI.of Tryz.prog 232=some ti232:=by kernel_rfl
def ti242:TI:=⟨false,1,8,[.raw (Value.nilFunc)],.other,none⟩
theorem tk242:TI.of Tryz.prog 242=some ti242:=by kernel_rfl
def ti243:TI:=⟨true,256,256,rep 256 ([.bool (.lit false)]),.array 256 4,none⟩
theorem tk243:TI.of Tryz.prog 243=some ti243:=by kernel_rfl
def ti245:TI:=⟨false,1,8,[.raw (Value.nilFunc)],.other,none⟩
theorem tk245:TI.of Tryz.prog 245=some ti245:=by kernel_rfl
def ti259:TI:=⟨false,1,8,[.int .u64 (.lit 0)],.int .u64,none⟩
theorem tk259:TI.of Tryz.prog 259=some ti259:=by kernel_rfl
def ti262:TI:=⟨false,1,8,[.raw (Value.pointer none)],.pointer,none⟩
theorem tk262:TI.of Tryz.prog 262=some ti262:=by kernel_rfl
def T4:Tab:=[(3,ti3),(4,ti4),(5,ti5),(28,ti28),(34,ti34),(41,ti41),(42,ti42),(53,ti53),(56,ti56),(63,ti63)]
theorem T4_ok:TabOk Tryz.prog T4:=.cons tk3 <| .cons tk4 <| .cons tk5 <| .cons tk28 <| .cons tk34 <| .cons tk41 <| .cons tk42 <| .cons tk53 <| .cons tk56 <| .cons tk63 <| .nil mixed
def B4:SchT:=[(9,[(1,some [0,2]),(2,some [0,1]),(3,some [0,1,2]),(0,some [1,2,3,4]),(4,none),(5,none),(6,none)]),(13,[(0,some []),(1,some [0]),(2,some [0,1]),(3,some [0,1,2,4,6]),(4,some [0,1,2,3,6]),(6,some [0,1,2,3,4,5]),(5,none),(7,none),(8,some [0,1,2,3,4,5,6,7]),(9,some [0,1,2,3,4,5,6,7,8]),(10,none),(11,some [0,1,2,3,4,5,6,7,8,9,10]),(12,some [0,1,2,3,4,5,6,7,8,9,10,11])])]
theorem B4_ok:regsO B4 Tryz.f4.body=true:=by kernel_rfl
def T7:Tab:=[(3,ti3),(4,ti4),(5,ti5),(22,ti22),(23,ti23),(25,ti25)]
theorem T7_ok:TabOk Tryz.prog T7:=.cons tk3 <| .cons tk4 <| .cons tk5 <| .cons tk22 <| .cons tk23 <| .cons tk25 <| .nil mixed
def B7:SchT:=[(5,[(0,some []),(1,none),(2,some [0,1]),(3,some [0,1,2]),(4,some [0,1,2,3]),(5,some [0,1,2,3,4]),(6,none),(7,none),(8,some [0,1,2,3,4,5,6,7]),(9,some [0,1,2,3,4,5,6,7,8]),(10,some [0,1,2,3,4,5,6,7,8,9,12,13,15,16,17,18]),(12,some [0,1,2,3,4,5,6,7,8,9,10,11,15,16,17,18]),(15,some [0,1,2,3,4,5,6,7,8,9,10,11,12,13,14,17,18]),(17,some [0,1,2,3,4,5,6,7,8,9,10,11,12,13,14,15,16]),(11,some [0,1,2,3,4,5,6,7,8,9,10,12,13,15,16,17,18]),(13,some [0,1,2,3,4,5,6,7,8,9,10,11,12,15,16,17,18]),(16,some [0,1,2,3,4,5,6,7,8,9,10,11,12,13,14,15,17,18]),(18,some [0,1,2,3,4,5,6,7,8,9,10,11,12,13,14,15,16,17]),(14,none),(19,none),(20,some [0,1,2,3,4,5,6,7,8,9,10,11,12,13,14,15,16,17,18,19]),(21,some [0,1,2,3,4,5,6,7,8,9,10,11,12,13,14,15,16,17,18,19,20]),(22,some [0,1,2,3,4,5,6,7,8,9,10,11,12,13,14,15,16,17,18,19,20,21]),(23,some [0,1,2,3,4,5,6,7,8,9,10,11,12,13,14,15,16,17,18,19,20,21,22])])]
theorem B7_ok:regsO B7 Tryz.f7.body=true:=by kernel_rfl
def T8:Tab:=[(2,ti2),(3,ti3),(29,ti29),(30,ti30),(31,ti31),(32,ti32),(34,ti34),(92,ti92),(94,ti94),(148,ti148),(151,ti151)]
theorem T8_ok:TabOk Tryz.prog T8:=.cons tk2 <| .cons tk3 <| .cons tk29 <| .cons tk30 <| .cons tk31 <| .cons tk32 <| .cons tk34 <| .cons tk92 <| .cons tk94 <| .cons tk148 <| .cons tk151 <| .nil mixed
def B8:SchT:=[]
theorem B8_ok:regsO B8 Tryz.f8.body=true:=by kernel_rfl
def T10:Tab:=[(4,ti4),(5,ti5),(23,ti23),(25,ti25),(28,ti28),(41,ti41),(42,ti42),(56,ti56)]
theorem T10_ok:TabOk Tryz.prog T10:=.cons tk4 <| .cons tk5 <| .cons tk23 <| .cons tk25 <| .cons tk28 <| .cons tk41 <| .cons tk42 <| .cons tk56 <| .nil mixed
def B10:SchT:=[]
theorem B10_ok:regsO B10 Tryz.f10.body=true:=by kernel_rfl
def T11:Tab:=[(4,ti4),(5,ti5),(22,ti22),(23,ti23),(25,ti25),(28,ti28),(41,ti41)]
theorem T11_ok:TabOk Tryz.prog T11:=.cons tk4 <| .cons tk5 <| .cons tk22 <| .cons tk23 <| .cons tk25 <| .cons tk28 <| .cons tk41 <| .nil mixed
def B11:SchT:=[]
theorem B11_ok:regsO B11 Tryz.f11.body=true:=by kernel_rfl
def T14:Tab:=[(3,ti3),(4,ti4),(5,ti5),(22,ti22),(25,ti25),(28,ti28),(34,ti34),(41,ti41),(56,ti56)]
theorem T14_ok:TabOk Tryz.prog T14:=.cons tk3 <| .cons tk4 <| .cons tk5 <| .cons tk22 <| .cons tk25 <| .cons tk28 <| .cons tk34 <| .cons tk41 <| .cons tk56 <| .nil mixed
def B14:SchT:=[(4,[(0,some [2,3]),(2,some [0,1]),(1,some [0,2,3]),(3,none),(4,some [0,1,2,3]),(5,none)]),(12,[(0,some [2,3,4]),(2,some [0,1,5]),(1,some [0,2,3,4]),(5,some [0,1,2,3,4]),(3,none),(4,none),(6,none),(7,some [0,1,2,3,4,5,6]),(8,none)])]
theorem B14_ok:regsO B14 Tryz.f14.body=true:=by kernel_rfl
def T15:Tab:=[(4,ti4),(5,ti5),(22,ti22),(28,ti28),(34,ti34),(41,ti41),(56,ti56)]
theorem T15_ok:TabOk Tryz.prog T15:=.cons tk4 <| .cons tk5 <| .cons tk22 <| .cons tk28 <| .cons tk34 <| .cons tk41 <| .cons tk56 <| .nil mixed
def B15:SchT:=[(4,[(2,some [0,1]),(0,some [1,2,3,4,5]),(1,some [0,2,3,4,5,6,7]),(3,none),(4,some [0,1,2,3]),(5,none),(6,some [0,1,2,3,4,5]),(7,none),(8,some [0,1,2,3,4,5,6,7]),(9,none)])]
theorem B15_ok:regsO B15 Tryz.f15.body=true:=by kernel_rfl
def T16:Tab:=[(3,ti3),(5,ti5),(23,ti23),(25,ti25),(34,ti34),(53,ti53),(56,ti56),(63,ti63)]
theorem T16_ok:TabOk Tryz.prog T16:=.cons tk3 <| .cons tk5 <| .cons tk23 <| .cons tk25 <| .cons tk34 <| .cons tk53 <| .cons tk56 <| .cons tk63 <| .nil mixed
def B16:SchT:=[]
theorem B16_ok:regsO B16 Tryz.f16.body=true:=by kernel_rfl
def T17:Tab:=[(3,ti3),(4,ti4),(5,ti5),(25,ti25),(28,ti28),(34,ti34),(41,ti41),(63,ti63)]
theorem T17_ok:TabOk Tryz.prog T17:=.cons tk3 <| .cons tk4 <| .cons tk5 <| .cons tk25 <| .cons tk28 <| .cons tk34 <| .cons tk41 <| .cons tk63 <| .nil mixed
def B17:SchT:=[(4,[(1,some [0,2,3,4,5,6,7,8,9,10]),(2,some [0,1,3]),(3,some [0,1,2]),(4,some [0,1,2,3]),(5,some [0,1,2,3,4]),(0,some [1,2,3,4,5,6,7,8,9]),(6,some [0,1,2,3,4,5,7]),(7,none),(8,none),(9,some [0,1,2,3,4,5,6,7,8,10,11]),(10,none),(11,some [0,1,2,3,4,5,6,7,8,9,10]),(12,some [0,1,2,3,4,5,6,7,8,9,10,11])]),(7,[(1,some [0,2,3,4,5,6,7,8,9,10]),(2,some [0,1,3]),(3,some [0,1,2]),(4,some [0,1,2,3]),(5,some [0,1,2,3,4]),(0,some [1,2,3,4,5,6,7,8,9]),(6,some [0,1,2,3,4,5,7]),(7,none),(8,none),(9,some [0,1,2,3,4,5,6,7,8,10,11]),(10,none),(11,some [0,1,2,3,4,5,6,7,8,9,10]),(12,some [0,1,2,3,4,5,6,7,8,9,10,11])])]
theorem B17_ok:regsO B17 Tryz.f17.body=true:=by kernel_rfl
def T18:Tab:=[(4,ti4),(5,ti5),(22,ti22),(25,ti25),(28,ti28),(34,ti34),(41,ti41)]
theorem T18_ok:TabOk Tryz.prog T18:=.cons tk4 <| .cons tk5 <| .cons tk22 <| .cons tk25 <| .cons tk28 <| .cons tk34 <| .cons tk41 <| .nil mixed
def B18:SchT:=[]
theorem B18_ok:regsO B18 Tryz.f18.body=true:=by kernel_rfl
def T19:Tab:=[(4,ti4),(5,ti5),(25,ti25),(28,ti28),(34,ti34),(41,ti41),(42,ti42)]
theorem T19_ok:TabOk Tryz.prog T19:=.cons tk4 <| .cons tk5 <| .cons tk25 <| .cons tk28 <| .cons tk34 <| .cons tk41 <| .cons tk42 <| .nil mixed
def B19:SchT:=[]
theorem B19_ok:regsO B19 Tryz.f19.body=true:=by kernel_rfl
def T30:Tab:=[(3,ti3),(5,ti5),(23,ti23)]
theorem T30_ok:TabOk Tryz.prog T30:=.cons tk3 <| .cons tk5 <| .cons tk23 <| .nil mixed
def B30:SchT:=[(4,[(0,some [1]),(1,some [0]),(2,some [0,1]),(3,none),(4,some [0,1,2,3]),(5,some [0,1,2,3,4]),(6,some [0,1,2,3,4,5]),(7,some [0,1,2,3,4,5,6]),(8,some [0,1,2,3,4,5,6,7]),(9,some [0,1,2,3,4,5,6,7,8,10,11,14,15,16,17]),(10,some [0,1,2,3,4,5,6,7,8,9,14,15,16,17]),(11,some [0,1,2,3,4,5,6,7,8,9,10,14,15,16,17]),(12,some [0,1,2,3,4,5,6,7,8,9,10,11,14,15,16,17]),(14,some [0,1,2,3,4,5,6,7,8,9,10,11,12,13,15]),(15,some [0,1,2,3,4,5,6,7,8,9,10,11,12,13,14]),(16,some [0,1,2,3,4,5,6,7,8,9,10,11,12,13,14,15]),(13,some [0,1,2,3,4,5,6,7,8,9,10,11,12,14,15,16,17]),(17,none),(18,some [0,1,2,3,4,5,6,7,8,9,10,11,12,13,14,15,16,17]),(19,some [0,1,2,3,4,5,6,7,8,9,10,11,12,13,14,15,16,17,18]),(20,some [0,1,2,3,4,5,6,7,8,9,10,11,12,13,14,15,16,17,18,19])])]
theorem B30_ok:regsO B30 Tryz.f30.body=true:=by kernel_rfl
def T31:Tab:=[(3,ti3),(4,ti4),(5,ti5),(23,ti23)]
theorem T31_ok:TabOk Tryz.prog T31:=.cons tk3 <| .cons tk4 <| .cons tk5 <| .cons tk23 <| .nil mixed
def B31:SchT:=[]
theorem B31_ok:regsO B31 Tryz.f31.body=true:=by kernel_rfl
def T32:Tab:=[(3,ti3),(4,ti4),(5,ti5),(22,ti22),(23,ti23),(25,ti25)]
theorem T32_ok:TabOk Tryz.prog T32:=.cons tk3 <| .cons tk4 <| .cons tk5 <| .cons tk22 <| .cons tk23 <| .cons tk25 <| .nil mixed
def B32:SchT:=[(5,[(0,some []),(1,none),(2,none),(3,some [0,1,2]),(4,some [0,1,2,3]),(5,none),(6,some [0,1,2,3,4,5]),(7,some [0,1,2,3,4,5,6]),(8,some [0,1,2,3,4,5,6,7]),(9,some [0,1,2,3,4,5,6,7,8]),(10,some [0,1,2,3,4,5,6,7,8,9,13,14]),(13,some [0,1,2,3,4,5,6,7,8,9,10,11,12]),(11,some [0,1,2,3,4,5,6,7,8,9,10,13,14]),(14,some [0,1,2,3,4,5,6,7,8,9,10,11,12,13]),(12,none),(15,none),(16,some [0,1,2,3,4,5,6,7,8,9,10,11,12,13,14,15]),(17,none),(18,some [0,1,2,3,4,5,6,7,8,9,10,11,12,13,14,15,16,17]),(19,some [0,1,2,3,4,5,6,7,8,9,10,11,12,13,14,15,16,17,18]),(20,some [0,1,2,3,4,5,6,7,8,9,10,11,12,13,14,15,16,17,18,19])])]
theorem B32_ok:regsO B32 Tryz.f32.body=true:=by kernel_rfl
def T33:Tab:=[(28,ti28)]
theorem T33_ok:TabOk Tryz.prog T33:=.cons tk28 <| .nil mixed
def B33:SchT:=[]
theorem B33_ok:regsO B33 Tryz.f33.body=true:=by kernel_rfl
theorem F33_ok:FOk Tryz.prog 33 (FI.of Tryz.f33 T33 B33):=FOk.of Tryz.func33 rfl T33_ok B33_ok Tryz.call33
def T34:Tab:=[(5,ti5),(23,ti23)]
theorem T34_ok:TabOk Tryz.prog T34:=.cons tk5 <| .cons tk23 <| .nil mixed
def B34:SchT:=[]
theorem B34_ok:regsO B34 Tryz.f34.body=true:=by kernel_rfl
theorem F34_ok:FOk Tryz.prog 34 (FI.of Tryz.f34 T34 B34):=FOk.of Tryz.func34 rfl T34_ok B34_ok Tryz.call34
def T38:Tab:=[(4,ti4),(5,ti5),(22,ti22),(23,ti23),(25,ti25),(28,ti28),(41,ti41),(56,ti56)]
theorem T38_ok:TabOk Tryz.prog T38:=.cons tk4 <| .cons tk5 <| .cons tk22 <| .cons tk23 <| .cons tk25 <| .cons tk28 <| .cons tk41 <| .cons tk56 <| .nil mixed
def B38:SchT:=[(2,[(0,some []),(1,some [0]),(2,none),(3,none),(4,some [0,1,2,3]),(5,some [0,1,2,3,4]),(6,some [0,1,2,3,4,5,8,9]),(8,some [0,1,2,3,4,5,6,7]),(7,some [0,1,2,3,4,5,6,8,9]),(9,none),(10,some [0,1,2,3,4,5,6,7,8,9]),(11,some [0,1,2,3,4,5,6,7,8,9,10]),(12,some [0,1,2,3,4,5,6,7,8,9,10,11]),(13,some [0,1,2,3,4,5,6,7,8,9,10,11,12,15,16]),(15,some [0,1,2,3,4,5,6,7,8,9,10,11,12,13,14]),(14,some [0,1,2,3,4,5,6,7,8,9,10,11,12,13,15,16]),(16,none),(17,some [0,1,2,3,4,5,6,7,8,9,10,11,12,13,14,15,16]),(18,some [0,1,2,3,4,5,6,7,8,9,10,11,12,13,14,15,16,17]),(19,some [0,1,2,3,4,5,6,7,8,9,10,11,12,13,14,15,16,17,18]),(20,some [0,1,2,3,4,5,6,7,8,9,10,11,12,13,14,15,16,17,18,19,22,23,24]),(22,some [0,1,2,3,4,5,6,7,8,9,10,11,12,13,14,15,16,17,18,19,20,21]),(23,some [0,1,2,3,4,5,6,7,8,9,10,11,12,13,14,15,16,17,18,19,20,21,22]),(21,some [0,1,2,3,4,5,6,7,8,9,10,11,12,13,14,15,16,17,18,19,20,22,23,24]),(24,none),(25,some [0,1,2,3,4,5,6,7,8,9,10,11,12,13,14,15,16,17,18,19,20,21,22,23,24]),(26,some [0,1,2,3,4,5,6,7,8,9,10,11,12,13,14,15,16,17,18,19,20,21,22,23,24,25]),(27,some [0,1,2,3,4,5,6,7,8,9,10,11,12,13,14,15,16,17,18,19,20,21,22,23,24,25,26]),(28,some [0,1,2,3,4,5,6,7,8,9,10,11,12,13,14,15,16,17,18,19,20,21,22,23,24,25,26,27,30,31,33,34]),(30,some [0,1,2,3,4,5,6,7,8,9,10,11,12,13,14,15,16,17,18,19,20,21,22,23,24,25,26,27,28,29,33,34]),(33,some [0,1,2,3,4,5,6,7,8,9,10,11,12,13,14,15,16,17,18,19,20,21,22,23,24,25,26,27,28,29,30,31,32]),(29,some [0,1,2,3,4,5,6,7,8,9,10,11,12,13,14,15,16,17,18,19,20,21,22,23,24,25,26,27,28,30,31,33,34]),(31,some [0,1,2,3,4,5,6,7,8,9,10,11,12,13,14,15,16,17,18,19,20,21,22,23,24,25,26,27,28,29,30,33,34]),(34,some [0,1,2,3,4,5,6,7,8,9,10,11,12,13,14,15,16,17,18,19,20,21,22,23,24,25,26,27,28,29,30,31,32,33]),(32,none),(35,none),(36,some [0,1,2,3,4,5,6,7,8,9,10,11,12,13,14,15,16,17,18,19,20,21,22,23,24,25,26,27,28,29,30,31,32,33,34,35]),(37,some [0,1,2,3,4,5,6,7,8,9,10,11,12,13,14,15,16,17,18,19,20,21,22,23,24,25,26,27,28,29,30,31,32,33,34,35,36]),(38,some [0,1,2,3,4,5,6,7,8,9,10,11,12,13,14,15,16,17,18,19,20,21,22,23,24,25,26,27,28,29,30,31,32,33,34,35,36,37]),(39,none),(40,some [0,1,2,3,4,5,6,7,8,9,10,11,12,13,14,15,16,17,18,19,20,21,22,23,24,25,26,27,28,29,30,31,32,33,34,35,36,37,38,39]),(41,some [0,1,2,3,4,5,6,7,8,9,10,11,12,13,14,15,16,17,18,19,20,21,22,23,24,25,26,27,28,29,30,31,32,33,34,35,36,37,38,39,40]),(42,some [0,1,2,3,4,5,6,7,8,9,10,11,12,13,14,15,16,17,18,19,20,21,22,23,24,25,26,27,28,29,30,31,32,33,34,35,36,37,38,39,40,41,44,45,46]),(44,some [0,1,2,3,4,5,6,7,8,9,10,11,12,13,14,15,16,17,18,19,20,21,22,23,24,25,26,27,28,29,30,31,32,33,34,35,36,37,38,39,40,41,42,43]),(45,some [0,1,2,3,4,5,6,7,8,9,10,11,12,13,14,15,16,17,18,19,20,21,22,23,24,25,26,27,28,29,30,31,32,33,34,35,36,37,38,39,40,41,42,43,44]),(43,some [0,1,2,3,4,5,6,7,8,9,10,11,12,13,14,15,16,17,18,19,20,21,22,23,24,25,26,27,28,29,30,31,32,33,34,35,36,37,38,39,40,41,42,44,45,46]),(46,none),(47,some [0,1,2,3,4,5,6,7,8,9,10,11,12,13,14,15,16,17,18,19,20,21,22,23,24,25,26,27,28,29,30,31,32,33,34,35,36,37,38,39,40,41,42,43,44,45,46]),(48,some [0,1,2,3,4,5,6,7,8,9,10,11,12,13,14,15,16,17,18,19,20,21,22,23,24,25,26,27,28,29,30,31,32,33,34,35,36,37,38,39,40,41,42,43,44,45,46,47]),(49,some [0,1,2,3,4,5,6,7,8,9,10,11,12,13,14,15,16,17,18,19,20,21,22,23,24,25,26,27,28,29,30,31,32,33,34,35,36,37,38,39,40,41,42,43,44,45,46,47,48]),(50,some [0,1,2,3,4,5,6,7,8,9,10,11,12,13,14,15,16,17,18,19,20,21,22,23,24,25,26,27,28,29,30,31,32,33,34,35,36,37,38,39,40,41,42,43,44,45,46,47,48,49])])]
theorem B38_ok:regsO B38 Tryz.f38.body=true:=by kernel_rfl
def T39:Tab:=[(5,ti5),(22,ti22),(23,ti23),(25,ti25)]
theorem T39_ok:TabOk Tryz.prog T39:=.cons tk5 <| .cons tk22 <| .cons tk23 <| .cons tk25 <| .nil mixed
def B39:SchT:=[]
theorem B39_ok:regsO B39 Tryz.f39.body=true:=by kernel_rfl
def T40:Tab:=[(3,ti3),(4,ti4),(5,ti5),(22,ti22),(23,ti23),(25,ti25),(139,ti139)]
theorem T40_ok:TabOk Tryz.prog T40:=.cons tk3 <| .cons tk4 <| .cons tk5 <| .cons tk22 <| .cons tk23 <| .cons tk25 <| .cons tk139 <| .nil mixed
def B40:SchT:=[]
theorem B40_ok:regsO B40 Tryz.f40.body=true:=by kernel_rfl
def T41:Tab:=[(3,ti3),(5,ti5),(22,ti22),(26,ti26),(28,ti28),(175,ti175)]
theorem T41_ok:TabOk Tryz.prog T41:=.cons tk3 <| .cons tk5 <| .cons tk22 <| .cons tk26 <| .cons tk28 <| .cons tk175 <| .nil mixed
def B41:SchT:=[(1,[(0,some [2,3,5,6,7,8,10,11,12,13]),(2,some [0,1,5,6,7,8,10,11,12,13]),(5,some [0,1,2,3,4,7,8,10,11,12,13]),(7,some [0,1,2,3,4,5,6,10,11,12,13]),(10,some [0,1,2,3,4,5,6,7,8,9,12,13]),(12,some [0,1,2,3,4,5,6,7,8,9,10,11]),(1,some [0,2,3,5,6,7,8,10,11,12,13]),(3,some [0,1,2,5,6,7,8,10,11,12,13]),(6,some [0,1,2,3,4,5,7,8,10,11,12,13]),(8,some [0,1,2,3,4,5,6,7,10,11,12,13]),(11,some [0,1,2,3,4,5,6,7,8,9,10,12,13]),(13,some [0,1,2,3,4,5,6,7,8,9,10,11,12]),(4,none),(9,none),(14,none),(15,none),(16,none),(17,some [0,1,2,3,4,5,6,7,8,9,10,11,12,13,14,15,16])])]
theorem B41_ok:regsO B41 Tryz.f41.body=true:=by kernel_rfl
theorem F41_ok:FOk Tryz.prog 41 (FI.of Tryz.f41 T41 B41):=FOk.of Tryz.func41 rfl T41_ok B41_ok Tryz.call41
def T42:Tab:=[(2,ti2),(3,ti3),(29,ti29),(30,ti30),(31,ti31),(32,ti32),(34,ti34),(92,ti92),(94,ti94),(148,ti148),(151,ti151)]
theorem T42_ok:TabOk Tryz.prog T42:=.cons tk2 <| .cons tk3 <| .cons tk29 <| .cons tk30 <| .cons tk31 <| .cons tk32 <| .cons tk34 <| .cons tk92 <| .cons tk94 <| .cons tk148 <| .cons tk151 <| .nil mixed
def B42:SchT:=[(1,[(0,some [3,4,6,7,9,10]),(3,some [0,1,2,6,7,9,10]),(6,some [0,1,2,3,4,5,9,10]),(9,some [0,1,2,3,4,5,6,7,8]),(1,some [0,3,4,6,7,9,10]),(4,some [0,1,2,3,6,7,9,10]),(7,some [0,1,2,3,4,5,6,9,10]),(10,some [0,1,2,3,4,5,6,7,8,9]),(2,none),(12,some [0,1,2,3,4,5,6,7,8,9,10,11]),(5,none),(8,none),(11,none),(13,none),(14,some [0,1,2,3,4,5,6,7,8,9,10,11,12,13]),(15,none),(16,some [0,1,2,3,4,5,6,7,8,9,10,11,12,13,14,15]),(17,none),(18,some [0,1,2,3,4,5,6,7,8,9,10,11,12,13,14,15,16,17]),(19,none)]),(5,[(0,some [2,3,4,5,6,7,8,9,10]),(2,some [0,1,3,4,5,6,7,8,9,10]),(3,some [0,1,2,5]),(5,some [0,1,2,3,4]),(1,some [0,2,3,4,5,6,7,8,9,10]),(4,none),(6,some [0,1,2,3,4,5]),(7,some [0,1,2,3,4,5,6]),(8,some [0,1,2,3,4,5,6,7]),(9,none),(10,none),(11,some [0,1,2,3,4,5,6,7,8,9,10]),(12,some [0,1,2,3,4,5,6,7,8,9,10,11]),(13,some [0,1,2,3,4,5,6,7,8,9,10,11,12]),(14,none)])]
theorem B42_ok:regsO B42 Tryz.f42.body=true:=by kernel_rfl
theorem F42_ok:FOk Tryz.prog 42 (FI.of Tryz.f42 T42 B42):=FOk.of Tryz.func42 rfl T42_ok B42_ok Tryz.call42
def T43:Tab:=[(4,ti4),(5,ti5),(22,ti22),(28,ti28),(34,ti34),(56,ti56)]
theorem T43_ok:TabOk Tryz.prog T43:=.cons tk4 <| .cons tk5 <| .cons tk22 <| .cons tk28 <| .cons tk34 <| .cons tk56 <| .nil mixed
def B43:SchT:=[]
theorem B43_ok:regsO B43 Tryz.f43.body=true:=by kernel_rfl
theorem F43_ok:FOk Tryz.prog 43 (FI.of Tryz.f43 T43 B43):=FOk.of Tryz.func43 rfl T43_ok B43_ok Tryz.call43
def T44:Tab:=[(5,ti5),(22,ti22),(25,ti25),(28,ti28),(34,ti34),(41,ti41),(56,ti56)]
theorem T44_ok:TabOk Tryz.prog T44:=.cons tk5 <| .cons tk22 <| .cons tk25 <| .cons tk28 <| .cons tk34 <| .cons tk41 <| .cons tk56 <| .nil mixed
def B44:SchT:=[(3,[(0,some [3,4]),(3,some [0,1,2,5,6]),(1,some [0,3,4]),(4,some [0,1,2,3,5,6]),(2,none),(5,some [0,1,2,3,4]),(6,none),(7,some [0,1,2,3,4,5,6]),(8,none)])]
theorem B44_ok:regsO B44 Tryz.f44.body=true:=by kernel_rfl
def T45:Tab:=[(3,ti3),(4,ti4),(5,ti5),(25,ti25),(28,ti28),(34,ti34),(41,ti41)]
theorem T45_ok:TabOk Tryz.prog T45:=.cons tk3 <| .cons tk4 <| .cons tk5 <| .cons tk25 <| .cons tk28 <| .cons tk34 <| .cons tk41 <| .nil mixed
def B45:SchT:=[]
theorem B45_ok:regsO B45 Tryz.f45.body=true:=by kernel_rfl
def T46:Tab:=[(4,ti4),(5,ti5),(25,ti25),(28,ti28),(41,ti41)]
theorem T46_ok:TabOk Tryz.prog T46:=.cons tk4 <| .cons tk5 <| .cons tk25 <| .cons tk28 <| .cons tk41 <| .nil mixed
def B46:SchT:=[]
theorem B46_ok:regsO B46 Tryz.f46.body=true:=by kernel_rfl
def T47:Tab:=[(5,ti5),(9,ti9),(22,ti22),(23,ti23),(25,ti25)]
theorem T47_ok:TabOk Tryz.prog T47:=.cons tk5 <| .cons tk9 <| .cons tk22 <| .cons tk23 <| .cons tk25 <| .nil mixed
def B47:SchT:=[]
theorem B47_ok:regsO B47 Tryz.f47.body=true:=by kernel_rfl
def T48:Tab:=[(2,ti2),(3,ti3),(4,ti4),(5,ti5),(22,ti22),(29,ti29),(30,ti30),(31,ti31),(32,ti32),(34,ti34),(92,ti92),(94,ti94),(148,ti148),(151,ti151)]
theorem T48_ok:TabOk Tryz.prog T48:=.cons tk2 <| .cons tk3 <| .cons tk4 <| .cons tk5 <| .cons tk22 <| .cons tk29 <| .cons tk30 <| .cons tk31 <| .cons tk32 <| .cons tk34 <| .cons tk92 <| .cons tk94 <| .cons tk148 <| .cons tk151 <| .nil mixed
def B48:SchT:=[(6,[(0,some [2,6,7,8,9,10,11]),(2,some [0,1,6,7,8,9,10,11]),(6,some [0,1,2,3,4,5,8]),(8,some [0,1,2,3,4,5,6,7]),(1,some [0,2,6,7,8,9,10,11]),(3,some [0,1,2,6,7,8,9,10,11]),(4,some [0,1,2,3,6,7,8,9,10,11]),(5,some [0,1,2,3,4,6,7,8,9,10,11]),(7,none),(9,some [0,1,2,3,4,5,6,7,8]),(10,some [0,1,2,3,4,5,6,7,8,9]),(11,none),(12,some [0,1,2,3,4,5,6,7,8,9,10,11]),(13,some [0,1,2,3,4,5,6,7,8,9,10,11,12]),(14,some [0,1,2,3,4,5,6,7,8,9,10,11,12,13,16,20,21,22,23,24,25]),(16,some [0,1,2,3,4,5,6,7,8,9,10,11,12,13,14,15,20,21,22,23,24,25]),(20,some [0,1,2,3,4,5,6,7,8,9,10,11,12,13,14,15,16,17,18,19,22]),(22,some [0,1,2,3,4,5,6,7,8,9,10,11,12,13,14,15,16,17,18,19,20,21]),(15,some [0,1,2,3,4,5,6,7,8,9,10,11,12,13,14,16,20,21,22,23,24,25]),(17,some [0,1,2,3,4,5,6,7,8,9,10,11,12,13,14,15,16,20,21,22,23,24,25]),(18,some [0,1,2,3,4,5,6,7,8,9,10,11,12,13,14,15,16,17,20,21,22,23,24,25]),(19,some [0,1,2,3,4,5,6,7,8,9,10,11,12,13,14,15,16,17,18,20,21,22,23,24,25]),(21,none),(23,some [0,1,2,3,4,5,6,7,8,9,10,11,12,13,14,15,16,17,18,19,20,21,22]),(24,some [0,1,2,3,4,5,6,7,8,9,10,11,12,13,14,15,16,17,18,19,20,21,22,23]),(25,none),(26,some [0,1,2,3,4,5,6,7,8,9,10,11,12,13,14,15,16,17,18,19,20,21,22,23,24,25]),(27,some [0,1,2,3,4,5,6,7,8,9,10,11,12,13,14,15,16,17,18,19,20,21,22,23,24,25,26]),(28,some [0,1,2,3,4,5,6,7,8,9,10,11,12,13,14,15,16,17,18,19,20,21,22,23,24,25,26,27]),(29,some [0,1,2,3,4,5,6,7,8,9,10,11,12,13,14,15,16,17,18,19,20,21,22,23,24,25,26,27,28,31,35,36,37,38,39,40]),(31,some [0,1,2,3,4,5,6,7,8,9,10,11,12,13,14,15,16,17,18,19,20,21,22,23,24,25,26,27,28,29,30,35,36,37,38,39,40]),(35,some [0,1,2,3,4,5,6,7,8,9,10,11,12,13,14,15,16,17,18,19,20,21,22,23,24,25,26,27,28,29,30,31,32,33,34,37]),(37,some [0,1,2,3,4,5,6,7,8,9,10,11,12,13,14,15,16,17,18,19,20,21,22,23,24,25,26,27,28,29,30,31,32,33,34,35,36]),(30,some [0,1,2,3,4,5,6,7,8,9,10,11,12,13,14,15,16,17,18,19,20,21,22,23,24,25,26,27,28,29,31,35,36,37,38,39,40]),(32,some [0,1,2,3,4,5,6,7,8,9,10,11,12,13,14,15,16,17,18,19,20,21,22,23,24,25,26,27,28,29,30,31,35,36,37,38,39,40]),(33,some [0,1,2,3,4,5,6,7,8,9,10,11,12,13,14,15,16,17,18,19,20,21,22,23,24,25,26,27,28,29,30,31,32,35,36,37,38,39,40]),(34,some [0,1,2,3,4,5,6,7,8,9,10,11,12,13,14,15,16,17,18,19,20,21,22,23,24,25,26,27,28,29,30,31,32,33,35,36,37,38,39,40]),(36,none),(38,some [0,1,2,3,4,5,6,7,8,9,10,11,12,13,14,15,16,17,18,19,20,21,22,23,24,25,26,27,28,29,30,31,32,33,34,35,36,37]),(39,some [0,1,2,3,4,5,6,7,8,9,10,11,12,13,14,15,16,17,18,19,20,21,22,23,24,25,26,27,28,29,30,31,32,33,34,35,36,37,38]),(40,none),(41,none),(42,some [0,1,2,3,4,5,6,7,8,9,10,11,12,13,14,15,16,17,18,19,20,21,22,23,24,25,26,27,28,29,30,31,32,33,34,35,36,37,38,39,40,41]),(43,some [0,1,2,3,4,5,6,7,8,9,10,11,12,13,14,15,16,17,18,19,20,21,22,23,24,25,26,27,28,29,30,31,32,33,34,35,36,37,38,39,40,41,42])]),(12,[(0,some [2,5,6,7,8,9]),(2,some [0,1,5,6,7,8,9]),(5,some [0,1,2,3,4,7]),(7,some [0,1,2,3,4,5,6]),(1,some [0,2,5,6,7,8,9]),(3,some [0,1,2,5,6,7,8,9]),(4,some [0,1,2,3,5,6,7,8,9]),(6,none),(8,some [0,1,2,3,4,5,6,7]),(9,none),(10,some [0,1,2,3,4,5,6,7,8,9])]),(18,[(0,some [2,5,6,7,8,9]),(2,some [0,1,5,6,7,8,9]),(5,some [0,1,2,3,4,7]),(7,some [0,1,2,3,4,5,6]),(1,some [0,2,5,6,7,8,9]),(3,some [0,1,2,5,6,7,8,9]),(4,some [0,1,2,3,5,6,7,8,9]),(6,none),(8,some [0,1,2,3,4,5,6,7]),(9,none),(10,some [0,1,2,3,4,5,6,7,8,9])])]
theorem B48_ok:regsO B48 Tryz.f48.body=true:=by kernel_rfl
def T49:Tab:=[(2,ti2),(3,ti3),(5,ti5),(22,ti22),(29,ti29),(30,ti30),(31,ti31),(32,ti32),(34,ti34),(94,ti94),(148,ti148),(151,ti151)]
theorem T49_ok:TabOk Tryz.prog T49:=.cons tk2 <| .cons tk3 <| .cons tk5 <| .cons tk22 <| .cons tk29 <| .cons tk30 <| .cons tk31 <| .cons tk32 <| .cons tk34 <| .cons tk94 <| .cons tk148 <| .cons tk151 <| .nil mixed
def B49:SchT:=[]
theorem B49_ok:regsO B49 Tryz.f49.body=true:=by kernel_rfl
theorem F49_ok:FOk Tryz.prog 49 (FI.of Tryz.f49 T49 B49):=FOk.of Tryz.func49 rfl T49_ok B49_ok Tryz.call49
def T59:Tab:=[(3,ti3),(5,ti5),(23,ti23)]
theorem T59_ok:TabOk Tryz.prog T59:=.cons tk3 <| .cons tk5 <| .cons tk23 <| .nil mixed
def B59:SchT:=[]
theorem B59_ok:regsO B59 Tryz.f59.body=true:=by kernel_rfl
def T60:Tab:=[(3,ti3),(5,ti5),(23,ti23)]
theorem T60_ok:TabOk Tryz.prog T60:=.cons tk3 <| .cons tk5 <| .cons tk23 <| .nil mixed
def B60:SchT:=[]
theorem B60_ok:regsO B60 Tryz.f60.body=true:=by kernel_rfl
def T61:Tab:=[(22,ti22),(25,ti25)]
theorem T61_ok:TabOk Tryz.prog T61:=.cons tk22 <| .cons tk25 <| .nil mixed
def B61:SchT:=[]
theorem B61_ok:regsO B61 Tryz.f61.body=true:=by kernel_rfl
theorem F61_ok:FOk Tryz.prog 61 (FI.of Tryz.f61 T61 B61):=FOk.of Tryz.func61 rfl T61_ok B61_ok Tryz.call61
def T62:Tab:=[(3,ti3),(22,ti22)]
theorem T62_ok:TabOk Tryz.prog T62:=.cons tk3 <| .cons tk22 <| .nil mixed
def B62:SchT:=[]
theorem B62_ok:regsO B62 Tryz.f62.body=true:=by kernel_rfl
def T63:Tab:=[(3,ti3),(5,ti5),(22,ti22),(23,ti23)]
theorem T63_ok:TabOk Tryz.prog T63:=.cons tk3 <| .cons tk5 <| .cons tk22 <| .cons tk23 <| .nil mixed
def B63:SchT:=[]
theorem B63_ok:regsO B63 Tryz.f63.body=true:=by kernel_rfl
def T66:Tab:=[(3,ti3),(5,ti5),(23,ti23)]
theorem T66_ok:TabOk Tryz.prog T66:=.cons tk3 <| .cons tk5 <| .cons tk23 <| .nil mixed
def B66:SchT:=[]
theorem B66_ok:regsO B66 Tryz.f66.body=true:=by kernel_rfl
def T67:Tab:=[(5,ti5),(23,ti23),(25,ti25),(139,ti139)]
theorem T67_ok:TabOk Tryz.prog T67:=.cons tk5 <| .cons tk23 <| .cons tk25 <| .cons tk139 <| .nil mixed
def B67:SchT:=[]
theorem B67_ok:regsO B67 Tryz.f67.body=true:=by kernel_rfl
theorem F67_ok:FOk Tryz.prog 67 (FI.of Tryz.f67 T67 B67):=FOk.of Tryz.func67 rfl T67_ok B67_ok Tryz.call67
def T68:Tab:=[(5,ti5),(23,ti23),(25,ti25),(139,ti139)]
theorem T68_ok:TabOk Tryz.prog T68:=.cons tk5 <| .cons tk23 <| .cons tk25 <| .cons tk139 <| .nil mixed
def B68:SchT:=[]
theorem B68_ok:regsO B68 Tryz.f68.body=true:=by kernel_rfl
theorem F68_ok:FOk Tryz.prog 68 (FI.of Tryz.f68 T68 B68):=FOk.of Tryz.func68 rfl T68_ok B68_ok Tryz.call68
def T69:Tab:=[(3,ti3),(175,ti175)]
theorem T69_ok:TabOk Tryz.prog T69:=.cons tk3 <| .cons tk175 <| .nil mixed
def B69:SchT:=[]
theorem B69_ok:regsO B69 Tryz.f69.body=true:=by kernel_rfl
theorem F69_ok:FOk Tryz.prog 69 (FI.of Tryz.f69 T69 B69):=FOk.of Tryz.func69 rfl T69_ok B69_ok Tryz.call69
def T70:Tab:=[(22,ti22)]
theorem T70_ok:TabOk Tryz.prog T70:=.cons tk22 <| .nil mixed
def B70:SchT:=[]
theorem B70_ok:regsO B70 Tryz.f70.body=true:=by kernel_rfl
theorem F70_ok:FOk Tryz.prog 70 (FI.of Tryz.f70 T70 B70):=FOk.of Tryz.func70 rfl T70_ok B70_ok Tryz.call70
def T71:Tab:=[(5,ti5)]
theorem T71_ok:TabOk Tryz.prog T71:=.cons tk5 <| .nil mixed
def B71:SchT:=[]
theorem B71_ok:regsO B71 Tryz.f71.body=true:=by kernel_rfl
theorem F71_ok:FOk Tryz.prog 71 (FI.of Tryz.f71 T71 B71):=FOk.of Tryz.func71 rfl T71_ok B71_ok Tryz.call71
def T72:Tab:=[(26,ti26)]
theorem T72_ok:TabOk Tryz.prog T72:=.cons tk26 <| .nil mixed
def B72:SchT:=[]
theorem B72_ok:regsO B72 Tryz.f72.body=true:=by kernel_rfl
theorem F72_ok:FOk Tryz.prog 72 (FI.of Tryz.f72 T72 B72):=FOk.of Tryz.func72 rfl T72_ok B72_ok Tryz.call72
def T73:Tab:=[(2,ti2),(29,ti29)]
theorem T73_ok:TabOk Tryz.prog T73:=.cons tk2 <| .cons tk29 <| .nil mixed
def B73:SchT:=[]
theorem B73_ok:regsO B73 Tryz.f73.body=true:=by kernel_rfl
theorem F73_ok:FOk Tryz.prog 73 (FI.of Tryz.f73 T73 B73):=FOk.of Tryz.func73 rfl T73_ok B73_ok Tryz.call73
def T74:Tab:=[(31,ti31),(148,ti148)]
theorem T74_ok:TabOk Tryz.prog T74:=.cons tk31 <| .cons tk148 <| .nil mixed
def B74:SchT:=[]
theorem B74_ok:regsO B74 Tryz.f74.body=true:=by kernel_rfl
theorem F74_ok:FOk Tryz.prog 74 (FI.of Tryz.f74 T74 B74):=FOk.of Tryz.func74 rfl T74_ok B74_ok Tryz.call74
def T75:Tab:=[(32,ti32),(151,ti151)]
theorem T75_ok:TabOk Tryz.prog T75:=.cons tk32 <| .cons tk151 <| .nil mixed
def B75:SchT:=[]
theorem B75_ok:regsO B75 Tryz.f75.body=true:=by kernel_rfl
theorem F75_ok:FOk Tryz.prog 75 (FI.of Tryz.f75 T75 B75):=FOk.of Tryz.func75 rfl T75_ok B75_ok Tryz.call75
def T76:Tab:=[(30,ti30),(94,ti94)]
theorem T76_ok:TabOk Tryz.prog T76:=.cons tk30 <| .cons tk94 <| .nil mixed
def B76:SchT:=[]
theorem B76_ok:regsO B76 Tryz.f76.body=true:=by kernel_rfl
theorem F76_ok:FOk Tryz.prog 76 (FI.of Tryz.f76 T76 B76):=FOk.of Tryz.func76 rfl T76_ok B76_ok Tryz.call76
def T77:Tab:=[(34,ti34)]
theorem T77_ok:TabOk Tryz.prog T77:=.cons tk34 <| .nil mixed
def B77:SchT:=[]
theorem B77_ok:regsO B77 Tryz.f77.body=true:=by kernel_rfl
theorem F77_ok:FOk Tryz.prog 77 (FI.of Tryz.f77 T77 B77):=FOk.of Tryz.func77 rfl T77_ok B77_ok Tryz.call77
def T78:Tab:=[(3,ti3),(5,ti5),(26,ti26),(28,ti28)]
theorem T78_ok:TabOk Tryz.prog T78:=.cons tk3 <| .cons tk5 <| .cons tk26 <| .cons tk28 <| .nil mixed
def B78:SchT:=[]
theorem B78_ok:regsO B78 Tryz.f78.body=true:=by kernel_rfl
theorem F78_ok:FOk Tryz.prog 78 (FI.of Tryz.f78 T78 B78):=FOk.of Tryz.func78 rfl T78_ok B78_ok Tryz.call78
def T79:Tab:=[(2,ti2),(3,ti3),(5,ti5),(22,ti22),(29,ti29),(30,ti30),(31,ti31),(32,ti32),(34,ti34),(94,ti94),(148,ti148),(151,ti151)]
theorem T79_ok:TabOk Tryz.prog T79:=.cons tk2 <| .cons tk3 <| .cons tk5 <| .cons tk22 <| .cons tk29 <| .cons tk30 <| .cons tk31 <| .cons tk32 <| .cons tk34 <| .cons tk94 <| .cons tk148 <| .cons tk151 <| .nil mixed
def B79:SchT:=[]
theorem B79_ok:regsO B79 Tryz.f79.body=true:=by kernel_rfl
def T80:Tab:=[(2,ti2),(3,ti3),(22,ti22),(29,ti29),(42,ti42),(92,ti92)]
theorem T80_ok:TabOk Tryz.prog T80:=.cons tk2 <| .cons tk3 <| .cons tk22 <| .cons tk29 <| .cons tk42 <| .cons tk92 <| .nil mixed
def B80:SchT:=[(6,[(0,some [2,5,6,7,8,9]),(2,some [0,1,5,6,7,8,9]),(5,some [0,1,2,3,4,7]),(7,some [0,1,2,3,4,5,6]),(1,some [0,2,5,6,7,8,9]),(3,some [0,1,2,5,6,7,8,9]),(4,some [0,1,2,3,5,6,7,8,9]),(6,none),(8,some [0,1,2,3,4,5,6,7]),(9,none),(10,some [0,1,2,3,4,5,6,7,8,9])])]
theorem B80_ok:regsO B80 Tryz.f80.body=true:=by kernel_rfl
def T81:Tab:=[(2,ti2),(3,ti3),(22,ti22),(29,ti29),(30,ti30),(31,ti31),(32,ti32),(34,ti34),(94,ti94),(148,ti148),(151,ti151)]
theorem T81_ok:TabOk Tryz.prog T81:=.cons tk2 <| .cons tk3 <| .cons tk22 <| .cons tk29 <| .cons tk30 <| .cons tk31 <| .cons tk32 <| .cons tk34 <| .cons tk94 <| .cons tk148 <| .cons tk151 <| .nil mixed
def B81:SchT:=[]
theorem B81_ok:regsO B81 Tryz.f81.body=true:=by kernel_rfl
theorem F81_ok:FOk Tryz.prog 81 (FI.of Tryz.f81 T81 B81):=FOk.of Tryz.func81 rfl T81_ok B81_ok Tryz.call81
def T82:Tab:=[(3,ti3)]
theorem T82_ok:TabOk Tryz.prog T82:=.cons tk3 <| .nil mixed
def B82:SchT:=[]
theorem B82_ok:regsO B82 Tryz.f82.body=true:=by kernel_rfl
theorem F82_ok:FOk Tryz.prog 82 (FI.of Tryz.f82 T82 B82):=FOk.of Tryz.func82 rfl T82_ok B82_ok Tryz.call82
def T83:Tab:=[(3,ti3),(4,ti4),(22,ti22),(30,ti30),(94,ti94),(181,ti181),(183,ti183)]
theorem T83_ok:TabOk Tryz.prog T83:=.cons tk3 <| .cons tk4 <| .cons tk22 <| .cons tk30 <| .cons tk94 <| .cons tk181 <| .cons tk183 <| .nil mixed
def B83:SchT:=[]
theorem B83_ok:regsO B83 Tryz.f83.body=true:=by kernel_rfl
theorem F83_ok:FOk Tryz.prog 83 (FI.of Tryz.f83 T83 B83):=FOk.of Tryz.func83 rfl T83_ok B83_ok Tryz.call83
def T84:Tab:=[(3,ti3),(4,ti4),(22,ti22),(31,ti31),(148,ti148),(185,ti185),(187,ti187)]
theorem T84_ok:TabOk Tryz.prog T84:=.cons tk3 <| .cons tk4 <| .cons tk22 <| .cons tk31 <| .cons tk148 <| .cons tk185 <| .cons tk187 <| .nil mixed
def B84:SchT:=[]
theorem B84_ok:regsO B84 Tryz.f84.body=true:=by kernel_rfl
theorem F84_ok:FOk Tryz.prog 84 (FI.of Tryz.f84 T84 B84):=FOk.of Tryz.func84 rfl T84_ok B84_ok Tryz.call84
def T85:Tab:=[(4,ti4),(22,ti22),(32,ti32),(151,ti151),(189,ti189),(191,ti191)]
theorem T85_ok:TabOk Tryz.prog T85:=.cons tk4 <| .cons tk22 <| .cons tk32 <| .cons tk151 <| .cons tk189 <| .cons tk191 <| .nil mixed
def B85:SchT:=[]
theorem B85_ok:regsO B85 Tryz.f85.body=true:=by kernel_rfl
theorem F85_ok:FOk Tryz.prog 85 (FI.of Tryz.f85 T85 B85):=FOk.of Tryz.func85 rfl T85_ok B85_ok Tryz.call85
def T96:Tab:=[(3,ti3),(5,ti5),(23,ti23)]
theorem T96_ok:TabOk Tryz.prog T96:=.cons tk3 <| .cons tk5 <| .cons tk23 <| .nil mixed
def B96:SchT:=[]
theorem B96_ok:regsO B96 Tryz.f96.body=true:=by kernel_rfl
def T97:Tab:=[(3,ti3),(5,ti5),(23,ti23),(139,ti139)]
theorem T97_ok:TabOk Tryz.prog T97:=.cons tk3 <| .cons tk5 <| .cons tk23 <| .cons tk139 <| .nil mixed
def B97:SchT:=[]
theorem B97_ok:regsO B97 Tryz.f97.body=true:=by kernel_rfl
theorem F97_ok:FOk Tryz.prog 97 (FI.of Tryz.f97 T97 B97):=FOk.of Tryz.func97 rfl T97_ok B97_ok Tryz.call97
def T98:Tab:=[(3,ti3),(5,ti5),(23,ti23),(168,ti168)]
theorem T98_ok:TabOk Tryz.prog T98:=.cons tk3 <| .cons tk5 <| .cons tk23 <| .cons tk168 <| .nil mixed
def B98:SchT:=[]
theorem B98_ok:regsO B98 Tryz.f98.body=true:=by kernel_rfl
theorem F98_ok:FOk Tryz.prog 98 (FI.of Tryz.f98 T98 B98):=FOk.of Tryz.func98 rfl T98_ok B98_ok Tryz.call98
def T99:Tab:=[(3,ti3),(5,ti5),(23,ti23)]
theorem T99_ok:TabOk Tryz.prog T99:=.cons tk3 <| .cons tk5 <| .cons tk23 <| .nil mixed
def B99:SchT:=[(6,[(0,some [1,4,5,6,7,8]),(1,some [0,4,5,6,7,8]),(2,some [0,1,4,5,6,7,8]),(4,some [0,1,2,3,5,6]),(5,some [0,1,2,3,4]),(6,some [0,1,2,3,4,5]),(7,some [0,1,2,3,4,5,6]),(3,some [0,1,2,4,5,6,7,8]),(8,none),(9,some [0,1,2,3,4,5,6,7,8])]),(11,[(0,some [1,4,5,6,7,8]),(1,some [0,4,5,6,7,8]),(2,some [0,1,4,5,6,7,8]),(4,some [0,1,2,3,5,6]),(5,some [0,1,2,3,4]),(6,some [0,1,2,3,4,5]),(7,some [0,1,2,3,4,5,6]),(3,some [0,1,2,4,5,6,7,8]),(8,none),(9,some [0,1,2,3,4,5,6,7,8])])]
theorem B99_ok:regsO B99 Tryz.f99.body=true:=by kernel_rfl
theorem F99_ok:FOk Tryz.prog 99 (FI.of Tryz.f99 T99 B99):=FOk.of Tryz.func99 rfl T99_ok B99_ok Tryz.call99
def T100:Tab:=[(3,ti3),(5,ti5),(23,ti23),(170,ti170),(205,ti205)]
theorem T100_ok:TabOk Tryz.prog T100:=.cons tk3 <| .cons tk5 <| .cons tk23 <| .cons tk170 <| .cons tk205 <| .nil mixed
def B100:SchT:=[]
theorem B100_ok:regsO B100 Tryz.f100.body=true:=by kernel_rfl
theorem F100_ok:FOk Tryz.prog 100 (FI.of Tryz.f100 T100 B100):=FOk.of Tryz.func100 rfl T100_ok B100_ok Tryz.call100
def T101:Tab:=[(22,ti22)]
theorem T101_ok:TabOk Tryz.prog T101:=.cons tk22 <| .nil mixed
def B101:SchT:=[]
theorem B101_ok:regsO B101 Tryz.f101.body=true:=by kernel_rfl
theorem F101_ok:FOk Tryz.prog 101 (FI.of Tryz.f101 T101 B101):=FOk.of Tryz.func101 rfl T101_ok B101_ok Tryz.call101
def T102:Tab:=[(5,ti5)]
theorem T102_ok:TabOk Tryz.prog T102:=.cons tk5 <| .nil mixed
def B102:SchT:=[]
theorem B102_ok:regsO B102 Tryz.f102.body=true:=by kernel_rfl
theorem F102_ok:FOk Tryz.prog 102 (FI.of Tryz.f102 T102 B102):=FOk.of Tryz.func102 rfl T102_ok B102_ok Tryz.call102
def T103:Tab:=[(26,ti26)]
theorem T103_ok:TabOk Tryz.prog T103:=.cons tk26 <| .nil mixed
def B103:SchT:=[]
theorem B103_ok:regsO B103 Tryz.f103.body=true:=by kernel_rfl
theorem F103_ok:FOk Tryz.prog 103 (FI.of Tryz.f103 T103 B103):=FOk.of Tryz.func103 rfl T103_ok B103_ok Tryz.call103
def T104:Tab:=[(2,ti2),(3,ti3),(5,ti5),(22,ti22),(29,ti29),(30,ti30),(31,ti31),(32,ti32),(34,ti34),(94,ti94),(148,ti148),(151,ti151),(211,ti211)]
theorem T104_ok:TabOk Tryz.prog T104:=.cons tk2 <| .cons tk3 <| .cons tk5 <| .cons tk22 <| .cons tk29 <| .cons tk30 <| .cons tk31 <| .cons tk32 <| .cons tk34 <| .cons tk94 <| .cons tk148 <| .cons tk151 <| .cons tk211 <| .nil mixed
def B104:SchT:=[]
theorem B104_ok:regsO B104 Tryz.f104.body=true:=by kernel_rfl
theorem F104_ok:FOk Tryz.prog 104 (FI.of Tryz.f104 T104 B104):=FOk.of Tryz.func104 rfl T104_ok B104_ok Tryz.call104
def T105:Tab:=[(2,ti2),(3,ti3),(4,ti4),(5,ti5),(22,ti22),(29,ti29),(30,ti30),(31,ti31),(32,ti32),(34,ti34),(92,ti92),(94,ti94),(148,ti148),(151,ti151)]
theorem T105_ok:TabOk Tryz.prog T105:=.cons tk2 <| .cons tk3 <| .cons tk4 <| .cons tk5 <| .cons tk22 <| .cons tk29 <| .cons tk30 <| .cons tk31 <| .cons tk32 <| .cons tk34 <| .cons tk92 <| .cons tk94 <| .cons tk148 <| .cons tk151 <| .nil mixed
def B105:SchT:=[(7,[(0,some []),(1,none),(2,some [0,1]),(3,some [0,1,2]),(4,some [0,1,2,3]),(5,none),(6,some [0,1,2,3,4,5]),(7,some [0,1,2,3,4,5,6]),(8,some [0,1,2,3,4,5,6,7]),(9,some [0,1,2,3,4,5,6,7,8]),(10,none),(11,some [0,1,2,3,4,5,6,7,8,9,10]),(12,some [0,1,2,3,4,5,6,7,8,9,10,11]),(13,some [0,1,2,3,4,5,6,7,8,9,10,11,12]),(14,some [0,1,2,3,4,5,6,7,8,9,10,11,12,13]),(15,none),(16,none),(17,some [0,1,2,3,4,5,6,7,8,9,10,11,12,13,14,15,16]),(18,some [0,1,2,3,4,5,6,7,8,9,10,11,12,13,14,15,16,17]),(19,some [0,1,2,3,4,5,6,7,8,9,10,11,12,13,14,15,16,17,18]),(20,some [0,1,2,3,4,5,6,7,8,9,10,11,12,13,14,15,16,17,18,19]),(21,some [0,1,2,3,4,5,6,7,8,9,10,11,12,13,14,15,16,17,18,19,20]),(22,some [0,1,2,3,4,5,6,7,8,9,10,11,12,13,14,15,16,17,18,19,20,21]),(23,some [0,1,2,3,4,5,6,7,8,9,10,11,12,13,14,15,16,17,18,19,20,21,22,25,26,30,31]),(25,some [0,1,2,3,4,5,6,7,8,9,10,11,12,13,14,15,16,17,18,19,20,21,22,23,24,30,31]),(26,some [0,1,2,3,4,5,6,7,8,9,10,11,12,13,14,15,16,17,18,19,20,21,22,23,24,25,30,31]),(30,some [0,1,2,3,4,5,6,7,8,9,10,11,12,13,14,15,16,17,18,19,20,21,22,23,24,25,26,27,28,29]),(24,some [0,1,2,3,4,5,6,7,8,9,10,11,12,13,14,15,16,17,18,19,20,21,22,23,25,26,30,31]),(27,some [0,1,2,3,4,5,6,7,8,9,10,11,12,13,14,15,16,17,18,19,20,21,22,23,24,25,26,30,31]),(28,some [0,1,2,3,4,5,6,7,8,9,10,11,12,13,14,15,16,17,18,19,20,21,22,23,24,25,26,27,30,31]),(29,some [0,1,2,3,4,5,6,7,8,9,10,11,12,13,14,15,16,17,18,19,20,21,22,23,24,25,26,27,28,30,31]),(31,none),(32,some [0,1,2,3,4,5,6,7,8,9,10,11,12,13,14,15,16,17,18,19,20,21,22,23,24,25,26,27,28,29,30,31]),(33,some [0,1,2,3,4,5,6,7,8,9,10,11,12,13,14,15,16,17,18,19,20,21,22,23,24,25,26,27,28,29,30,31,32]),(34,some [0,1,2,3,4,5,6,7,8,9,10,11,12,13,14,15,16,17,18,19,20,21,22,23,24,25,26,27,28,29,30,31,32,33])]),(14,[(0,some []),(1,none),(2,some [0,1]),(3,some [0,1,2]),(4,some [0,1,2,3,6,7]),(6,some [0,1,2,3,4,5]),(5,some [0,1,2,3,4,6,7]),(7,none),(8,some [0,1,2,3,4,5,6,7]),(9,some [0,1,2,3,4,5,6,7,8]),(10,some [0,1,2,3,4,5,6,7,8,9]),(11,some [0,1,2,3,4,5,6,7,8,9,10]),(12,none),(13,some [0,1,2,3,4,5,6,7,8,9,10,11,12]),(14,some [0,1,2,3,4,5,6,7,8,9,10,11,12,13]),(15,some [0,1,2,3,4,5,6,7,8,9,10,11,12,13,14]),(16,some [0,1,2,3,4,5,6,7,8,9,10,11,12,13,14,15]),(17,none),(18,some [0,1,2,3,4,5,6,7,8,9,10,11,12,13,14,15,16,17]),(19,some [0,1,2,3,4,5,6,7,8,9,10,11,12,13,14,15,16,17,18]),(20,some [0,1,2,3,4,5,6,7,8,9,10,11,12,13,14,15,16,17,18,19]),(21,some [0,1,2,3,4,5,6,7,8,9,10,11,12,13,14,15,16,17,18,19,20]),(22,none),(23,some [0,1,2,3,4,5,6,7,8,9,10,11,12,13,14,15,16,17,18,19,20,21,22]),(24,some [0,1,2,3,4,5,6,7,8,9,10,11,12,13,14,15,16,17,18,19,20,21,22,23]),(25,some [0,1,2,3,4,5,6,7,8,9,10,11,12,13,14,15,16,17,18,19,20,21,22,23,24]),(26,some [0,1,2,3,4,5,6,7,8,9,10,11,12,13,14,15,16,17,18,19,20,21,22,23,24,25]),(27,some [0,1,2,3,4,5,6,7,8,9,10,11,12,13,14,15,16,17,18,19,20,21,22,23,24,25,26]),(28,some [0,1,2,3,4,5,6,7,8,9,10,11,12,13,14,15,16,17,18,19,20,21,22,23,24,25,26,27]),(29,some [0,1,2,3,4,5,6,7,8,9,10,11,12,13,14,15,16,17,18,19,20,21,22,23,24,25,26,27,28,31,32,36,37]),(31,some [0,1,2,3,4,5,6,7,8,9,10,11,12,13,14,15,16,17,18,19,20,21,22,23,24,25,26,27,28,29,30,36,37]),(32,some [0,1,2,3,4,5,6,7,8,9,10,11,12,13,14,15,16,17,18,19,20,21,22,23,24,25,26,27,28,29,30,31,36,37]),(36,some [0,1,2,3,4,5,6,7,8,9,10,11,12,13,14,15,16,17,18,19,20,21,22,23,24,25,26,27,28,29,30,31,32,33,34,35]),(30,some [0,1,2,3,4,5,6,7,8,9,10,11,12,13,14,15,16,17,18,19,20,21,22,23,24,25,26,27,28,29,31,32,36,37]),(33,some [0,1,2,3,4,5,6,7,8,9,10,11,12,13,14,15,16,17,18,19,20,21,22,23,24,25,26,27,28,29,30,31,32,36,37]),(34,some [0,1,2,3,4,5,6,7,8,9,10,11,12,13,14,15,16,17,18,19,20,21,22,23,24,25,26,27,28,29,30,31,32,33,36,37]),(35,some [0,1,2,3,4,5,6,7,8,9,10,11,12,13,14,15,16,17,18,19,20,21,22,23,24,25,26,27,28,29,30,31,32,33,34,36,37]),(37,none),(38,some [0,1,2,3,4,5,6,7,8,9,10,11,12,13,14,15,16,17,18,19,20,21,22,23,24,25,26,27,28,29,30,31,32,33,34,35,36,37]),(39,some [0,1,2,3,4,5,6,7,8,9,10,11,12,13,14,15,16,17,18,19,20,21,22,23,24,25,26,27,28,29,30,31,32,33,34,35,36,37,38]),(40,some [0,1,2,3,4,5,6,7,8,9,10,11,12,13,14,15,16,17,18,19,20,21,22,23,24,25,26,27,28,29,30,31,32,33,34,35,36,37,38,39])]),(21,[(0,some []),(1,none),(2,some [0,1]),(3,some [0,1,2]),(4,some [0,1,2,3]),(5,none),(6,some [0,1,2,3,4,5]),(7,some [0,1,2,3,4,5,6]),(8,some [0,1,2,3,4,5,6,7]),(9,some [0,1,2,3,4,5,6,7,8]),(10,none),(11,some [0,1,2,3,4,5,6,7,8,9,10]),(12,some [0,1,2,3,4,5,6,7,8,9,10,11]),(13,some [0,1,2,3,4,5,6,7,8,9,10,11,12]),(14,some [0,1,2,3,4,5,6,7,8,9,10,11,12,13]),(15,some [0,1,2,3,4,5,6,7,8,9,10,11,12,13,14]),(16,some [0,1,2,3,4,5,6,7,8,9,10,11,12,13,14,15]),(17,some [0,1,2,3,4,5,6,7,8,9,10,11,12,13,14,15,16,19,20,24,25]),(19,some [0,1,2,3,4,5,6,7,8,9,10,11,12,13,14,15,16,17,18,24,25]),(20,some [0,1,2,3,4,5,6,7,8,9,10,11,12,13,14,15,16,17,18,19,24,25]),(24,some [0,1,2,3,4,5,6,7,8,9,10,11,12,13,14,15,16,17,18,19,20,21,22,23]),(18,some [0,1,2,3,4,5,6,7,8,9,10,11,12,13,14,15,16,17,19,20,24,25]),(21,some [0,1,2,3,4,5,6,7,8,9,10,11,12,13,14,15,16,17,18,19,20,24,25]),(22,some [0,1,2,3,4,5,6,7,8,9,10,11,12,13,14,15,16,17,18,19,20,21,24,25]),(23,some [0,1,2,3,4,5,6,7,8,9,10,11,12,13,14,15,16,17,18,19,20,21,22,24,25]),(25,none),(26,some [0,1,2,3,4,5,6,7,8,9,10,11,12,13,14,15,16,17,18,19,20,21,22,23,24,25]),(27,some [0,1,2,3,4,5,6,7,8,9,10,11,12,13,14,15,16,17,18,19,20,21,22,23,24,25,26]),(28,some [0,1,2,3,4,5,6,7,8,9,10,11,12,13,14,15,16,17,18,19,20,21,22,23,24,25,26,27])])]
theorem B105_ok:regsO B105 Tryz.f105.body=true:=by kernel_rfl
def T106:Tab:=[(3,ti3),(30,ti30),(94,ti94),(181,ti181)]
theorem T106_ok:TabOk Tryz.prog T106:=.cons tk3 <| .cons tk30 <| .cons tk94 <| .cons tk181 <| .nil mixed
def B106:SchT:=[]
theorem B106_ok:regsO B106 Tryz.f106.body=true:=by kernel_rfl
theorem F106_ok:FOk Tryz.prog 106 (FI.of Tryz.f106 T106 B106):=FOk.of Tryz.func106 rfl T106_ok B106_ok Tryz.call106
def T107:Tab:=[(4,ti4),(5,ti5),(22,ti22),(92,ti92),(94,ti94)]
theorem T107_ok:TabOk Tryz.prog T107:=.cons tk4 <| .cons tk5 <| .cons tk22 <| .cons tk92 <| .cons tk94 <| .nil mixed
def B107:SchT:=[]
theorem B107_ok:regsO B107 Tryz.f107.body=true:=by kernel_rfl
theorem F107_ok:FOk Tryz.prog 107 (FI.of Tryz.f107 T107 B107):=FOk.of Tryz.func107 rfl T107_ok B107_ok Tryz.call107
def T108:Tab:=[(2,ti2),(3,ti3),(29,ti29),(42,ti42),(92,ti92)]
theorem T108_ok:TabOk Tryz.prog T108:=.cons tk2 <| .cons tk3 <| .cons tk29 <| .cons tk42 <| .cons tk92 <| .nil mixed
def B108:SchT:=[]
theorem B108_ok:regsO B108 Tryz.f108.body=true:=by kernel_rfl
theorem F108_ok:FOk Tryz.prog 108 (FI.of Tryz.f108 T108 B108):=FOk.of Tryz.func108 rfl T108_ok B108_ok Tryz.call108
def T109:Tab:=[(3,ti3),(22,ti22),(30,ti30),(94,ti94)]
theorem T109_ok:TabOk Tryz.prog T109:=.cons tk3 <| .cons tk22 <| .cons tk30 <| .cons tk94 <| .nil mixed
def B109:SchT:=[]
theorem B109_ok:regsO B109 Tryz.f109.body=true:=by kernel_rfl
theorem F109_ok:FOk Tryz.prog 109 (FI.of Tryz.f109 T109 B109):=FOk.of Tryz.func109 rfl T109_ok B109_ok Tryz.call109
def T110:Tab:=[(5,ti5),(22,ti22),(94,ti94)]
theorem T110_ok:TabOk Tryz.prog T110:=.cons tk5 <| .cons tk22 <| .cons tk94 <| .nil mixed
def B110:SchT:=[]
theorem B110_ok:regsO B110 Tryz.f110.body=true:=by kernel_rfl
theorem F110_ok:FOk Tryz.prog 110 (FI.of Tryz.f110 T110 B110):=FOk.of Tryz.func110 rfl T110_ok B110_ok Tryz.call110
def T111:Tab:=[(3,ti3),(31,ti31),(148,ti148),(185,ti185)]
theorem T111_ok:TabOk Tryz.prog T111:=.cons tk3 <| .cons tk31 <| .cons tk148 <| .cons tk185 <| .nil mixed
def B111:SchT:=[]
theorem B111_ok:regsO B111 Tryz.f111.body=true:=by kernel_rfl
theorem F111_ok:FOk Tryz.prog 111 (FI.of Tryz.f111 T111 B111):=FOk.of Tryz.func111 rfl T111_ok B111_ok Tryz.call111
def T112:Tab:=[(3,ti3),(4,ti4),(5,ti5),(22,ti22),(148,ti148)]
theorem T112_ok:TabOk Tryz.prog T112:=.cons tk3 <| .cons tk4 <| .cons tk5 <| .cons tk22 <| .cons tk148 <| .nil mixed
def B112:SchT:=[]
theorem B112_ok:regsO B112 Tryz.f112.body=true:=by kernel_rfl
theorem F112_ok:FOk Tryz.prog 112 (FI.of Tryz.f112 T112 B112):=FOk.of Tryz.func112 rfl T112_ok B112_ok Tryz.call112
def T113:Tab:=[(3,ti3),(22,ti22),(31,ti31),(148,ti148)]
theorem T113_ok:TabOk Tryz.prog T113:=.cons tk3 <| .cons tk22 <| .cons tk31 <| .cons tk148 <| .nil mixed
def B113:SchT:=[]
theorem B113_ok:regsO B113 Tryz.f113.body=true:=by kernel_rfl
theorem F113_ok:FOk Tryz.prog 113 (FI.of Tryz.f113 T113 B113):=FOk.of Tryz.func113 rfl T113_ok B113_ok Tryz.call113
def T114:Tab:=[(22,ti22),(148,ti148)]
theorem T114_ok:TabOk Tryz.prog T114:=.cons tk22 <| .cons tk148 <| .nil mixed
def B114:SchT:=[]
theorem B114_ok:regsO B114 Tryz.f114.body=true:=by kernel_rfl
theorem F114_ok:FOk Tryz.prog 114 (FI.of Tryz.f114 T114 B114):=FOk.of Tryz.func114 rfl T114_ok B114_ok Tryz.call114
def T115:Tab:=[(3,ti3),(32,ti32),(151,ti151),(189,ti189)]
theorem T115_ok:TabOk Tryz.prog T115:=.cons tk3 <| .cons tk32 <| .cons tk151 <| .cons tk189 <| .nil mixed
def B115:SchT:=[]
theorem B115_ok:regsO B115 Tryz.f115.body=true:=by kernel_rfl
theorem F115_ok:FOk Tryz.prog 115 (FI.of Tryz.f115 T115 B115):=FOk.of Tryz.func115 rfl T115_ok B115_ok Tryz.call115
def T116:Tab:=[(5,ti5),(22,ti22),(151,ti151)]
theorem T116_ok:TabOk Tryz.prog T116:=.cons tk5 <| .cons tk22 <| .cons tk151 <| .nil mixed
def B116:SchT:=[]
theorem B116_ok:regsO B116 Tryz.f116.body=true:=by kernel_rfl
theorem F116_ok:FOk Tryz.prog 116 (FI.of Tryz.f116 T116 B116):=FOk.of Tryz.func116 rfl T116_ok B116_ok Tryz.call116
def T117:Tab:=[(3,ti3),(22,ti22),(32,ti32),(151,ti151)]
theorem T117_ok:TabOk Tryz.prog T117:=.cons tk3 <| .cons tk22 <| .cons tk32 <| .cons tk151 <| .nil mixed
def B117:SchT:=[]
theorem B117_ok:regsO B117 Tryz.f117.body=true:=by kernel_rfl
theorem F117_ok:FOk Tryz.prog 117 (FI.of Tryz.f117 T117 B117):=FOk.of Tryz.func117 rfl T117_ok B117_ok Tryz.call117
def T118:Tab:=[(5,ti5),(22,ti22),(151,ti151)]
theorem T118_ok:TabOk Tryz.prog T118:=.cons tk5 <| .cons tk22 <| .cons tk151 <| .nil mixed
def B118:SchT:=[]
theorem B118_ok:regsO B118 Tryz.f118.body=true:=by kernel_rfl
theorem F118_ok:FOk Tryz.prog 118 (FI.of Tryz.f118 T118 B118):=FOk.of Tryz.func118 rfl T118_ok B118_ok Tryz.call118
def T127:Tab:=[(3,ti3),(5,ti5),(23,ti23)]
theorem T127_ok:TabOk Tryz.prog T127:=.cons tk3 <| .cons tk5 <| .cons tk23 <| .nil mixed
def B127:SchT:=[]
theorem B127_ok:regsO B127 Tryz.f127.body=true:=by kernel_rfl
theorem F127_ok:FOk Tryz.prog 127 (FI.of Tryz.f127 T127 B127):=FOk.of Tryz.func127 rfl T127_ok B127_ok Tryz.call127
def T128:Tab:=[(3,ti3),(4,ti4),(5,ti5),(23,ti23),(232,ti232)]
theorem T128_ok:TabOk Tryz.prog T128:=.cons tk3 <| .cons tk4 <| .cons tk5 <| .cons tk23 <| .cons tk232 <| .nil mixed
def B128:SchT:=[(17,[(0,some []),(1,some [0]),(2,some [0,1]),(3,some [0,1,2,4,5,8,9,10,11]),(4,some [0,1,2,3,8,9,10,11]),(5,some [0,1,2,3,4,8,9,10,11]),(6,some [0,1,2,3,4,5,8,9,10,11]),(8,some [0,1,2,3,4,5,6,7,9]),(9,some [0,1,2,3,4,5,6,7,8]),(10,some [0,1,2,3,4,5,6,7,8,9]),(7,some [0,1,2,3,4,5,6,8,9,10,11]),(11,none),(12,none),(13,some [0,1,2,3,4,5,6,7,8,9,10,11,12]),(14,some [0,1,2,3,4,5,6,7,8,9,10,11,12,13])])]
theorem B128_ok:regsO B128 Tryz.f128.body=true:=by kernel_rfl
theorem F128_ok:FOk Tryz.prog 128 (FI.of Tryz.f128 T128 B128):=FOk.of Tryz.func128 rfl T128_ok B128_ok Tryz.call128
def T129:Tab:=[(22,ti22),(26,ti26),(168,ti168)]
theorem T129_ok:TabOk Tryz.prog T129:=.cons tk22 <| .cons tk26 <| .cons tk168 <| .nil mixed
def B129:SchT:=[]
theorem B129_ok:regsO B129 Tryz.f129.body=true:=by kernel_rfl
theorem F129_ok:FOk Tryz.prog 129 (FI.of Tryz.f129 T129 B129):=FOk.of Tryz.func129 rfl T129_ok B129_ok Tryz.call129
def T130:Tab:=[(3,ti3),(4,ti4),(5,ti5),(22,ti22),(23,ti23),(170,ti170),(205,ti205),(242,ti242),(243,ti243)]
theorem T130_ok:TabOk Tryz.prog T130:=.cons tk3 <| .cons tk4 <| .cons tk5 <| .cons tk22 <| .cons tk23 <| .cons tk170 <| .cons tk205 <| .cons tk242 <| .cons tk243 <| .nil mixed
def B130:SchT:=[(9,[(1,some [0,2,4,5]),(2,some [0,1,4,5]),(3,some [0,1,2,4,5]),(0,some [1,2,3,4,5,6]),(4,none),(5,some [0,1,2,3,4]),(6,some [0,1,2,3,4,5]),(7,some [0,1,2,3,4,5,6]),(8,some [0,1,2,3,4,5,6,7]),(9,none),(10,some [0,1,2,3,4,5,6,7,8,9])])]
theorem B130_ok:regsO B130 Tryz.f130.body=true:=by kernel_rfl
theorem F130_ok:FOk Tryz.prog 130 (FI.of Tryz.f130 T130 B130):=FOk.of Tryz.func130 rfl T130_ok B130_ok Tryz.call130
def T131:Tab:=[(3,ti3),(5,ti5),(23,ti23),(170,ti170),(205,ti205),(245,ti245)]
theorem T131_ok:TabOk Tryz.prog T131:=.cons tk3 <| .cons tk5 <| .cons tk23 <| .cons tk170 <| .cons tk205 <| .cons tk245 <| .nil mixed
def B131:SchT:=[]
theorem B131_ok:regsO B131 Tryz.f131.body=true:=by kernel_rfl
theorem F131_ok:FOk Tryz.prog 131 (FI.of Tryz.f131 T131 B131):=FOk.of Tryz.func131 rfl T131_ok B131_ok Tryz.call131
def T132:Tab:=[(5,ti5),(22,ti22),(92,ti92),(94,ti94)]
theorem T132_ok:TabOk Tryz.prog T132:=.cons tk5 <| .cons tk22 <| .cons tk92 <| .cons tk94 <| .nil mixed
def B132:SchT:=[]
theorem B132_ok:regsO B132 Tryz.f132.body=true:=by kernel_rfl
theorem F132_ok:FOk Tryz.prog 132 (FI.of Tryz.f132 T132 B132):=FOk.of Tryz.func132 rfl T132_ok B132_ok Tryz.call132
def T133:Tab:=[(2,ti2),(3,ti3),(22,ti22),(29,ti29),(42,ti42),(92,ti92)]
theorem T133_ok:TabOk Tryz.prog T133:=.cons tk2 <| .cons tk3 <| .cons tk22 <| .cons tk29 <| .cons tk42 <| .cons tk92 <| .nil mixed
def B133:SchT:=[]
theorem B133_ok:regsO B133 Tryz.f133.body=true:=by kernel_rfl
theorem F133_ok:FOk Tryz.prog 133 (FI.of Tryz.f133 T133 B133):=FOk.of Tryz.func133 rfl T133_ok B133_ok Tryz.call133
def T134:Tab:=[(2,ti2),(3,ti3),(29,ti29)]
theorem T134_ok:TabOk Tryz.prog T134:=.cons tk2 <| .cons tk3 <| .cons tk29 <| .nil mixed
def B134:SchT:=[(6,[(0,some [1,4,5,6,7]),(1,some [0,4,5,6,7]),(2,some [0,1,4,5,6,7]),(4,some [0,1,2,3,5]),(5,some [0,1,2,3,4]),(6,some [0,1,2,3,4,5]),(3,some [0,1,2,4,5,6,7]),(7,none),(8,some [0,1,2,3,4,5,6,7])])]
theorem B134_ok:regsO B134 Tryz.f134.body=true:=by kernel_rfl
theorem F134_ok:FOk Tryz.prog 134 (FI.of Tryz.f134 T134 B134):=FOk.of Tryz.func134 rfl T134_ok B134_ok Tryz.call134
def T135:Tab:=[(3,ti3),(4,ti4),(30,ti30),(94,ti94)]
theorem T135_ok:TabOk Tryz.prog T135:=.cons tk3 <| .cons tk4 <| .cons tk30 <| .cons tk94 <| .nil mixed
def B135:SchT:=[]
theorem B135_ok:regsO B135 Tryz.f135.body=true:=by kernel_rfl
theorem F135_ok:FOk Tryz.prog 135 (FI.of Tryz.f135 T135 B135):=FOk.of Tryz.func135 rfl T135_ok B135_ok Tryz.call135
def T136:Tab:=[(3,ti3),(31,ti31),(148,ti148)]
theorem T136_ok:TabOk Tryz.prog T136:=.cons tk3 <| .cons tk31 <| .cons tk148 <| .nil mixed
def B136:SchT:=[(6,[(0,some [1,4,5,6,7]),(1,some [0,4,5,6,7]),(2,some [0,1,4,5,6,7]),(4,some [0,1,2,3,5]),(5,some [0,1,2,3,4]),(6,some [0,1,2,3,4,5]),(3,some [0,1,2,4,5,6,7]),(7,none),(8,some [0,1,2,3,4,5,6,7])])]
theorem B136_ok:regsO B136 Tryz.f136.body=true:=by kernel_rfl
theorem F136_ok:FOk Tryz.prog 136 (FI.of Tryz.f136 T136 B136):=FOk.of Tryz.func136 rfl T136_ok B136_ok Tryz.call136
def T137:Tab:=[(3,ti3),(32,ti32),(151,ti151)]
theorem T137_ok:TabOk Tryz.prog T137:=.cons tk3 <| .cons tk32 <| .cons tk151 <| .nil mixed
def B137:SchT:=[(6,[(0,some [1,4,5,6,7]),(1,some [0,4,5,6,7]),(2,some [0,1,4,5,6,7]),(4,some [0,1,2,3,5]),(5,some [0,1,2,3,4]),(6,some [0,1,2,3,4,5]),(3,some [0,1,2,4,5,6,7]),(7,none),(8,some [0,1,2,3,4,5,6,7])])]
theorem B137_ok:regsO B137 Tryz.f137.body=true:=by kernel_rfl
theorem F137_ok:FOk Tryz.prog 137 (FI.of Tryz.f137 T137 B137):=FOk.of Tryz.func137 rfl T137_ok B137_ok Tryz.call137
def T138:Tab:=[(2,ti2),(3,ti3),(29,ti29),(42,ti42),(92,ti92)]
theorem T138_ok:TabOk Tryz.prog T138:=.cons tk2 <| .cons tk3 <| .cons tk29 <| .cons tk42 <| .cons tk92 <| .nil mixed
def B138:SchT:=[]
theorem B138_ok:regsO B138 Tryz.f138.body=true:=by kernel_rfl
def T139:Tab:=[(3,ti3),(30,ti30),(94,ti94)]
theorem T139_ok:TabOk Tryz.prog T139:=.cons tk3 <| .cons tk30 <| .cons tk94 <| .nil mixed
def B139:SchT:=[]
theorem B139_ok:regsO B139 Tryz.f139.body=true:=by kernel_rfl
theorem F139_ok:FOk Tryz.prog 139 (FI.of Tryz.f139 T139 B139):=FOk.of Tryz.func139 rfl T139_ok B139_ok Tryz.call139
def T140:Tab:=[(3,ti3),(31,ti31),(148,ti148)]
theorem T140_ok:TabOk Tryz.prog T140:=.cons tk3 <| .cons tk31 <| .cons tk148 <| .nil mixed
def B140:SchT:=[]
theorem B140_ok:regsO B140 Tryz.f140.body=true:=by kernel_rfl
theorem F140_ok:FOk Tryz.prog 140 (FI.of Tryz.f140 T140 B140):=FOk.of Tryz.func140 rfl T140_ok B140_ok Tryz.call140
def T141:Tab:=[(3,ti3),(32,ti32),(151,ti151)]
theorem T141_ok:TabOk Tryz.prog T141:=.cons tk3 <| .cons tk32 <| .cons tk151 <| .nil mixed
def B141:SchT:=[]
theorem B141_ok:regsO B141 Tryz.f141.body=true:=by kernel_rfl
theorem F141_ok:FOk Tryz.prog 141 (FI.of Tryz.f141 T141 B141):=FOk.of Tryz.func141 rfl T141_ok B141_ok Tryz.call141
def T151:Tab:=[(3,ti3),(5,ti5),(23,ti23)]
theorem T151_ok:TabOk Tryz.prog T151:=.cons tk3 <| .cons tk5 <| .cons tk23 <| .nil mixed
def B151:SchT:=[(4,[(0,some [1]),(1,some [0]),(2,some [0,1]),(3,some [0,1,2]),(4,some [0,1,2,3,5,8,9,10,11,12]),(5,some [0,1,2,3,4,8,9,10,11,12]),(6,some [0,1,2,3,4,5,8,9,10,11,12]),(8,some [0,1,2,3,4,5,6,7,9,10]),(9,some [0,1,2,3,4,5,6,7,8]),(10,some [0,1,2,3,4,5,6,7,8,9]),(11,some [0,1,2,3,4,5,6,7,8,9,10]),(7,some [0,1,2,3,4,5,6,8,9,10,11,12]),(12,none),(13,none),(14,some [0,1,2,3,4,5,6,7,8,9,10,11,12,13])]),(6,[(0,some [1,2,3,4,5,6,7,8,9,10,11,12,13]),(1,some [0,2,3,4,5,6,7,8,9,10,11,12,13]),(2,some [0,1,3,4,5,6,7,8,9,10,11,12,13,14,15]),(3,some [0,1,2,5,6,7,8,9,10,11,12,13,14,15]),(4,some [0,1,2,3,5,6,7,8,9,10,11,12,13,14,15]),(5,some [0,1,2,3,4,6,7,10,11,12,13]),(6,some [0,1,2,3,4,5,10,11,12,13]),(7,some [0,1,2,3,4,5,6,10,11,12,13]),(8,some [0,1,2,3,4,5,6,7,10,11,12,13]),(10,some [0,1,2,3,4,5,6,7,8,9,11]),(11,some [0,1,2,3,4,5,6,7,8,9,10]),(12,some [0,1,2,3,4,5,6,7,8,9,10,11]),(9,some [0,1,2,3,4,5,6,7,8,10,11,12,13]),(13,none),(14,some [0,1,2,3,4,5,6,7,8,9,10,11,12,13]),(15,none),(16,some [0,1,2,3,4,5,6,7,8,9,10,11,12,13,14,15]),(17,none)])]
theorem B151_ok:regsO B151 Tryz.f151.body=true:=by kernel_rfl
theorem F151_ok:FOk Tryz.prog 151 (FI.of Tryz.f151 T151 B151):=FOk.of Tryz.func151 rfl T151_ok B151_ok Tryz.call151
def T152:Tab:=[(3,ti3),(5,ti5),(23,ti23)]
theorem T152_ok:TabOk Tryz.prog T152:=.cons tk3 <| .cons tk5 <| .cons tk23 <| .nil mixed
def B152:SchT:=[(10,[(0,some [1,2,3,4,5,6,7,8,9,10,11,12,13,14,15]),(1,some [0,2,3,4,5,6,7,8,9,10,11,12,13,14,15]),(2,some [0,1,3,4,5,6,7,8,9,10,11,12,13,14,15,16,17]),(3,some [0,1,2,4,6,7,8,9,10,11,12,13,14,15,16,17]),(4,some [0,1,2,3,6,7,8,9,10,11,12,13,14,15,16,17]),(5,some [0,1,2,3,4,6,7,8,9,10,11,12,13,14,15,16,17]),(6,some [0,1,2,3,4,5,7,8,9,12,13,14,15]),(7,some [0,1,2,3,4,5,6,8,12,13,14,15]),(8,some [0,1,2,3,4,5,6,7,12,13,14,15]),(9,some [0,1,2,3,4,5,6,7,8,12,13,14,15]),(10,some [0,1,2,3,4,5,6,7,8,9,12,13,14,15]),(12,some [0,1,2,3,4,5,6,7,8,9,10,11,13]),(13,some [0,1,2,3,4,5,6,7,8,9,10,11,12]),(14,some [0,1,2,3,4,5,6,7,8,9,10,11,12,13]),(11,some [0,1,2,3,4,5,6,7,8,9,10,12,13,14,15]),(15,none),(16,some [0,1,2,3,4,5,6,7,8,9,10,11,12,13,14,15]),(17,none),(18,some [0,1,2,3,4,5,6,7,8,9,10,11,12,13,14,15,16,17]),(19,none)])]
theorem B152_ok:regsO B152 Tryz.f152.body=true:=by kernel_rfl
theorem F152_ok:FOk Tryz.prog 152 (FI.of Tryz.f152 T152 B152):=FOk.of Tryz.func152 rfl T152_ok B152_ok Tryz.call152
def T153:Tab:=[(3,ti3),(5,ti5),(23,ti23),(168,ti168),(259,ti259)]
theorem T153_ok:TabOk Tryz.prog T153:=.cons tk3 <| .cons tk5 <| .cons tk23 <| .cons tk168 <| .cons tk259 <| .nil mixed
def B153:SchT:=[(10,[(0,some [1,2,3,4,5,6,7,8,9,10,11,12,13,14,15]),(1,some [0,2,3,4,5,6,7,8,9,10,11,12,13,14,15]),(2,some [0,1,3,4,5,6,7,8,9,10,11,12,13,14,15,16,17]),(3,some [0,1,2,4,6,7,8,9,10,11,12,13,14,15,16,17]),(4,some [0,1,2,3,6,7,8,9,10,11,12,13,14,15,16,17]),(5,some [0,1,2,3,4,6,7,8,9,10,11,12,13,14,15,16,17]),(6,some [0,1,2,3,4,5,7,8,9,12,13,14,15]),(7,some [0,1,2,3,4,5,6,8,12,13,14,15]),(8,some [0,1,2,3,4,5,6,7,12,13,14,15]),(9,some [0,1,2,3,4,5,6,7,8,12,13,14,15]),(10,some [0,1,2,3,4,5,6,7,8,9,12,13,14,15]),(12,some [0,1,2,3,4,5,6,7,8,9,10,11,13]),(13,some [0,1,2,3,4,5,6,7,8,9,10,11,12]),(14,some [0,1,2,3,4,5,6,7,8,9,10,11,12,13]),(11,some [0,1,2,3,4,5,6,7,8,9,10,12,13,14,15]),(15,none),(16,some [0,1,2,3,4,5,6,7,8,9,10,11,12,13,14,15]),(17,none),(18,some [0,1,2,3,4,5,6,7,8,9,10,11,12,13,14,15,16,17]),(19,none)])]
theorem B153_ok:regsO B153 Tryz.f153.body=true:=by kernel_rfl
theorem F153_ok:FOk Tryz.prog 153 (FI.of Tryz.f153 T153 B153):=FOk.of Tryz.func153 rfl T153_ok B153_ok Tryz.call153
def T154:Tab:=[(3,ti3),(5,ti5),(23,ti23),(262,ti262)]
theorem T154_ok:TabOk Tryz.prog T154:=.cons tk3 <| .cons tk5 <| .cons tk23 <| .cons tk262 <| .nil mixed
def B154:SchT:=[]
theorem B154_ok:regsO B154 Tryz.f154.body=true:=by kernel_rfl
theorem F154_ok:FOk Tryz.prog 154 (FI.of Tryz.f154 T154 B154):=FOk.of Tryz.func154 rfl T154_ok B154_ok Tryz.call154
def T155:Tab:=[(3,ti3),(5,ti5),(23,ti23)]
theorem T155_ok:TabOk Tryz.prog T155:=.cons tk3 <| .cons tk5 <| .cons tk23 <| .nil mixed
def B155:SchT:=[(3,[(0,some [1,2,3,4,5,6,7,8,9,10,11]),(1,some [0,2,3,4,5,6,7,8,9,10,11]),(2,some [0,1,3,4,5,6,7,8,9,10,11,12,13]),(3,some [0,1,2,4,5,6,7,8,9,10,11,12,13]),(4,some [0,1,2,3,5,8,9,10,11]),(5,some [0,1,2,3,4,8,9,10,11]),(6,some [0,1,2,3,4,5,8,9,10,11]),(8,some [0,1,2,3,4,5,6,7,9]),(9,some [0,1,2,3,4,5,6,7,8]),(10,some [0,1,2,3,4,5,6,7,8,9]),(7,some [0,1,2,3,4,5,6,8,9,10,11]),(11,none),(12,some [0,1,2,3,4,5,6,7,8,9,10,11]),(13,none),(14,some [0,1,2,3,4,5,6,7,8,9,10,11,12,13]),(15,none)])]
theorem B155_ok:regsO B155 Tryz.f155.body=true:=by kernel_rfl
theorem F155_ok:FOk Tryz.prog 155 (FI.of Tryz.f155 T155 B155):=FOk.of Tryz.func155 rfl T155_ok B155_ok Tryz.call155
def T156:Tab:=[(3,ti3),(4,ti4),(5,ti5),(23,ti23)]
theorem T156_ok:TabOk Tryz.prog T156:=.cons tk3 <| .cons tk4 <| .cons tk5 <| .cons tk23 <| .nil mixed
def B156:SchT:=[(5,[(0,some [1]),(1,some [0]),(2,some [0,1]),(3,some [0,1,2]),(4,some [0,1,2,3,5,8,9,10,11,12]),(5,some [0,1,2,3,4,8,9,10,11,12]),(6,some [0,1,2,3,4,5,8,9,10,11,12]),(8,some [0,1,2,3,4,5,6,7,9,10]),(9,some [0,1,2,3,4,5,6,7,8]),(10,some [0,1,2,3,4,5,6,7,8,9]),(11,some [0,1,2,3,4,5,6,7,8,9,10]),(7,some [0,1,2,3,4,5,6,8,9,10,11,12]),(12,none),(13,none),(14,some [0,1,2,3,4,5,6,7,8,9,10,11,12,13]),(15,some [0,1,2,3,4,5,6,7,8,9,10,11,12,13,14])]),(11,[(0,some [1,2,3,4,5,6,7,8,9,10,11,12,13]),(1,some [0,2,3,4,5,6,7,8,9,10,11,12,13]),(2,some [0,1,3,4,5,6,7,8,9,10,11,12,13,14,15]),(3,some [0,1,2,5,6,7,8,9,10,11,12,13,14,15]),(4,some [0,1,2,3,5,6,7,8,9,10,11,12,13,14,15]),(5,some [0,1,2,3,4,6,7,10,11,12,13]),(6,some [0,1,2,3,4,5,10,11,12,13]),(7,some [0,1,2,3,4,5,6,10,11,12,13]),(8,some [0,1,2,3,4,5,6,7,10,11,12,13]),(10,some [0,1,2,3,4,5,6,7,8,9,11]),(11,some [0,1,2,3,4,5,6,7,8,9,10]),(12,some [0,1,2,3,4,5,6,7,8,9,10,11]),(9,some [0,1,2,3,4,5,6,7,8,10,11,12,13]),(13,none),(14,some [0,1,2,3,4,5,6,7,8,9,10,11,12,13]),(15,none),(16,some [0,1,2,3,4,5,6,7,8,9,10,11,12,13,14,15]),(17,none)]),(16,[(0,some [1,4,5,6,7,8]),(1,some [0,4,5,6,7,8]),(2,some [0,1,4,5,6,7,8]),(4,some [0,1,2,3,5,6]),(5,some [0,1,2,3,4]),(6,some [0,1,2,3,4,5]),(7,some [0,1,2,3,4,5,6]),(3,some [0,1,2,4,5,6,7,8]),(8,none),(9,none),(10,some [0,1,2,3,4,5,6,7,8,9])]),(17,[(0,some [1,2,3,4,5,6,7,8,9,10,11,12,13]),(1,some [0,2,3,4,5,6,7,8,9,10,11,12,13]),(2,some [0,1,3,4,5,6,7,8,9,10,11,12,13,14,15]),(3,some [0,1,2,5,6,7,8,9,10,11,12,13,14,15]),(4,some [0,1,2,3,5,6,7,8,9,10,11,12,13,14,15]),(5,some [0,1,2,3,4,6,7,10,11,12,13]),(6,some [0,1,2,3,4,5,10,11,12,13]),(7,some [0,1,2,3,4,5,6,10,11,12,13]),(8,some [0,1,2,3,4,5,6,7,10,11,12,13]),(10,some [0,1,2,3,4,5,6,7,8,9,11]),(11,some [0,1,2,3,4,5,6,7,8,9,10]),(12,some [0,1,2,3,4,5,6,7,8,9,10,11]),(9,some [0,1,2,3,4,5,6,7,8,10,11,12,13]),(13,none),(14,some [0,1,2,3,4,5,6,7,8,9,10,11,12,13]),(15,none),(16,some [0,1,2,3,4,5,6,7,8,9,10,11,12,13,14,15]),(17,none)]),(22,[(0,some [1,4,5,6,7,8]),(1,some [0,4,5,6,7,8]),(2,some [0,1,4,5,6,7,8]),(4,some [0,1,2,3,5,6]),(5,some [0,1,2,3,4]),(6,some [0,1,2,3,4,5]),(7,some [0,1,2,3,4,5,6]),(3,some [0,1,2,4,5,6,7,8]),(8,none),(9,none),(10,some [0,1,2,3,4,5,6,7,8,9])]),(23,[(0,some [1,2,3,4,5,6,7,8,9,10,11,12,13]),(1,some [0,2,3,4,5,6,7,8,9,10,11,12,13]),(2,some [0,1,3,4,5,6,7,8,9,10,11,12,13,14,15]),(3,some [0,1,2,5,6,7,8,9,10,11,12,13,14,15]),(4,some [0,1,2,3,5,6,7,8,9,10,11,12,13,14,15]),(5,some [0,1,2,3,4,6,7,10,11,12,13]),(6,some [0,1,2,3,4,5,10,11,12,13]),(7,some [0,1,2,3,4,5,6,10,11,12,13]),(8,some [0,1,2,3,4,5,6,7,10,11,12,13]),(10,some [0,1,2,3,4,5,6,7,8,9,11]),(11,some [0,1,2,3,4,5,6,7,8,9,10]),(12,some [0,1,2,3,4,5,6,7,8,9,10,11]),(9,some [0,1,2,3,4,5,6,7,8,10,11,12,13]),(13,none),(14,some [0,1,2,3,4,5,6,7,8,9,10,11,12,13]),(15,none),(16,some [0,1,2,3,4,5,6,7,8,9,10,11,12,13,14,15]),(17,none)])]
theorem B156_ok:regsO B156 Tryz.f156.body=true:=by kernel_rfl
theorem F156_ok:FOk Tryz.prog 156 (FI.of Tryz.f156 T156 B156):=FOk.of Tryz.func156 rfl T156_ok B156_ok Tryz.call156
def T157:Tab:=[(4,ti4),(5,ti5)]
theorem T157_ok:TabOk Tryz.prog T157:=.cons tk4 <| .cons tk5 <| .nil mixed
def B157:SchT:=[]
theorem B157_ok:regsO B157 Tryz.f157.body=true:=by kernel_rfl
theorem F157_ok:FOk Tryz.prog 157 (FI.of Tryz.f157 T157 B157):=FOk.of Tryz.func157 rfl T157_ok B157_ok Tryz.call157
def T158:Tab:=[(3,ti3),(4,ti4),(5,ti5),(23,ti23)]
theorem T158_ok:TabOk Tryz.prog T158:=.cons tk3 <| .cons tk4 <| .cons tk5 <| .cons tk23 <| .nil mixed
def B158:SchT:=[(1,[(0,some [1,2,3,4,5,6,7,8,9,10,11]),(1,some [0,2,3,4,5,6,7,8,9,10,11]),(2,some [0,1,3,4,5,6,7,8,9,10,11,12,13]),(3,some [0,1,2,4,5,6,7,8,9,10,11,12,13]),(4,some [0,1,2,3,5,8,9,10,11]),(5,some [0,1,2,3,4,8,9,10,11]),(6,some [0,1,2,3,4,5,8,9,10,11]),(8,some [0,1,2,3,4,5,6,7,9]),(9,some [0,1,2,3,4,5,6,7,8]),(10,some [0,1,2,3,4,5,6,7,8,9]),(7,some [0,1,2,3,4,5,6,8,9,10,11]),(11,none),(12,some [0,1,2,3,4,5,6,7,8,9,10,11]),(13,none),(14,some [0,1,2,3,4,5,6,7,8,9,10,11,12,13]),(15,none)]),(3,[(0,some [1]),(1,some [0]),(2,some [0,1]),(3,some [0,1,2]),(4,some [0,1,2,3,5,8,9,10,11]),(5,some [0,1,2,3,4,8,9,10,11]),(6,some [0,1,2,3,4,5,8,9,10,11]),(8,some [0,1,2,3,4,5,6,7,9]),(9,some [0,1,2,3,4,5,6,7,8]),(10,some [0,1,2,3,4,5,6,7,8,9]),(7,some [0,1,2,3,4,5,6,8,9,10,11]),(11,none),(12,none),(13,some [0,1,2,3,4,5,6,7,8,9,10,11,12]),(14,some [0,1,2,3,4,5,6,7,8,9,10,11,12,13])]),(5,[(0,some [1]),(1,some [0]),(2,some [0,1]),(3,some [0,1,2]),(4,some [0,1,2,3,5,8,9,10,11]),(5,some [0,1,2,3,4,8,9,10,11]),(6,some [0,1,2,3,4,5,8,9,10,11]),(8,some [0,1,2,3,4,5,6,7,9]),(9,some [0,1,2,3,4,5,6,7,8]),(10,some [0,1,2,3,4,5,6,7,8,9]),(7,some [0,1,2,3,4,5,6,8,9,10,11]),(11,none),(12,none),(13,some [0,1,2,3,4,5,6,7,8,9,10,11,12])]),(8,[(0,some [1,2,3,4,5,6,7,8,9,10,11]),(1,some [0,2,3,4,5,6,7,8,9,10,11]),(2,some [0,1,3,4,5,6,7,8,9,10,11,12,13]),(3,some [0,1,2,4,5,6,7,8,9,10,11,12,13]),(4,some [0,1,2,3,5,8,9,10,11]),(5,some [0,1,2,3,4,8,9,10,11]),(6,some [0,1,2,3,4,5,8,9,10,11]),(8,some [0,1,2,3,4,5,6,7,9]),(9,some [0,1,2,3,4,5,6,7,8]),(10,some [0,1,2,3,4,5,6,7,8,9]),(7,some [0,1,2,3,4,5,6,8,9,10,11]),(11,none),(12,some [0,1,2,3,4,5,6,7,8,9,10,11]),(13,none),(14,some [0,1,2,3,4,5,6,7,8,9,10,11,12,13]),(15,none)])]
theorem B158_ok:regsO B158 Tryz.f158.body=true:=by kernel_rfl
theorem F158_ok:FOk Tryz.prog 158 (FI.of Tryz.f158 T158 B158):=FOk.of Tryz.func158 rfl T158_ok B158_ok Tryz.call158
def T159:Tab:=[(3,ti3),(4,ti4),(5,ti5),(23,ti23)]
theorem T159_ok:TabOk Tryz.prog T159:=.cons tk3 <| .cons tk4 <| .cons tk5 <| .cons tk23 <| .nil mixed
def B159:SchT:=[(1,[(0,some [1,2,3,4,5,6,7,8,9,10,11]),(1,some [0,2,3,4,5,6,7,8,9,10,11]),(2,some [0,1,3,4,5,6,7,8,9,10,11,12,13]),(3,some [0,1,2,4,5,6,7,8,9,10,11,12,13]),(4,some [0,1,2,3,5,8,9,10,11]),(5,some [0,1,2,3,4,8,9,10,11]),(6,some [0,1,2,3,4,5,8,9,10,11]),(8,some [0,1,2,3,4,5,6,7,9]),(9,some [0,1,2,3,4,5,6,7,8]),(10,some [0,1,2,3,4,5,6,7,8,9]),(7,some [0,1,2,3,4,5,6,8,9,10,11]),(11,none),(12,some [0,1,2,3,4,5,6,7,8,9,10,11]),(13,none),(14,some [0,1,2,3,4,5,6,7,8,9,10,11,12,13]),(15,none)]),(3,[(0,some [1]),(1,some [0]),(2,some [0,1]),(3,some [0,1,2]),(4,some [0,1,2,3,5,8,9,10,11]),(5,some [0,1,2,3,4,8,9,10,11]),(6,some [0,1,2,3,4,5,8,9,10,11]),(8,some [0,1,2,3,4,5,6,7,9]),(9,some [0,1,2,3,4,5,6,7,8]),(10,some [0,1,2,3,4,5,6,7,8,9]),(7,some [0,1,2,3,4,5,6,8,9,10,11]),(11,none),(12,none),(13,some [0,1,2,3,4,5,6,7,8,9,10,11,12])]),(5,[(0,some [1]),(1,some [0]),(2,some [0,1]),(3,some [0,1,2]),(4,some [0,1,2,3,5,8,9,10,11]),(5,some [0,1,2,3,4,8,9,10,11]),(6,some [0,1,2,3,4,5,8,9,10,11]),(8,some [0,1,2,3,4,5,6,7,9]),(9,some [0,1,2,3,4,5,6,7,8]),(10,some [0,1,2,3,4,5,6,7,8,9]),(7,some [0,1,2,3,4,5,6,8,9,10,11]),(11,none),(12,none),(13,some [0,1,2,3,4,5,6,7,8,9,10,11,12]),(14,some [0,1,2,3,4,5,6,7,8,9,10,11,12,13])]),(8,[(0,some [1,2,3,4,5,6,7,8,9,10,11]),(1,some [0,2,3,4,5,6,7,8,9,10,11]),(2,some [0,1,3,4,5,6,7,8,9,10,11,12,13]),(3,some [0,1,2,4,5,6,7,8,9,10,11,12,13]),(4,some [0,1,2,3,5,8,9,10,11]),(5,some [0,1,2,3,4,8,9,10,11]),(6,some [0,1,2,3,4,5,8,9,10,11]),(8,some [0,1,2,3,4,5,6,7,9]),(9,some [0,1,2,3,4,5,6,7,8]),(10,some [0,1,2,3,4,5,6,7,8,9]),(7,some [0,1,2,3,4,5,6,8,9,10,11]),(11,none),(12,some [0,1,2,3,4,5,6,7,8,9,10,11]),(13,none),(14,some [0,1,2,3,4,5,6,7,8,9,10,11,12,13]),(15,none)]),(10,[(0,some [1,2,3,4,5,6,7,8,9,10,11]),(1,some [0,2,3,4,5,6,7,8,9,10,11]),(2,some [0,1,3,4,5,6,7,8,9,10,11,12,13]),(3,some [0,1,2,4,5,6,7,8,9,10,11,12,13]),(4,some [0,1,2,3,5,8,9,10,11]),(5,some [0,1,2,3,4,8,9,10,11]),(6,some [0,1,2,3,4,5,8,9,10,11]),(8,some [0,1,2,3,4,5,6,7,9]),(9,some [0,1,2,3,4,5,6,7,8]),(10,some [0,1,2,3,4,5,6,7,8,9]),(7,some [0,1,2,3,4,5,6,8,9,10,11]),(11,none),(12,some [0,1,2,3,4,5,6,7,8,9,10,11]),(13,none),(14,some [0,1,2,3,4,5,6,7,8,9,10,11,12,13]),(15,none)]),(13,[(0,some [1]),(1,some [0]),(2,some [0,1]),(3,some [0,1,2]),(4,some [0,1,2,3,5,8,9,10,11]),(5,some [0,1,2,3,4,8,9,10,11]),(6,some [0,1,2,3,4,5,8,9,10,11]),(8,some [0,1,2,3,4,5,6,7,9]),(9,some [0,1,2,3,4,5,6,7,8]),(10,some [0,1,2,3,4,5,6,7,8,9]),(7,some [0,1,2,3,4,5,6,8,9,10,11]),(11,none),(12,none),(13,some [0,1,2,3,4,5,6,7,8,9,10,11,12])]),(15,[(0,some [1]),(1,some [0]),(2,some [0,1]),(3,some [0,1,2]),(4,some [0,1,2,3,5,8,9,10,11]),(5,some [0,1,2,3,4,8,9,10,11]),(6,some [0,1,2,3,4,5,8,9,10,11]),(8,some [0,1,2,3,4,5,6,7,9]),(9,some [0,1,2,3,4,5,6,7,8]),(10,some [0,1,2,3,4,5,6,7,8,9]),(7,some [0,1,2,3,4,5,6,8,9,10,11]),(11,none),(12,none),(13,some [0,1,2,3,4,5,6,7,8,9,10,11,12]),(14,some [0,1,2,3,4,5,6,7,8,9,10,11,12,13])]),(18,[(0,some [1,2,3,4,5,6,7,8,9,10,11]),(1,some [0,2,3,4,5,6,7,8,9,10,11]),(2,some [0,1,3,4,5,6,7,8,9,10,11,12,13]),(3,some [0,1,2,4,5,6,7,8,9,10,11,12,13]),(4,some [0,1,2,3,5,8,9,10,11]),(5,some [0,1,2,3,4,8,9,10,11]),(6,some [0,1,2,3,4,5,8,9,10,11]),(8,some [0,1,2,3,4,5,6,7,9]),(9,some [0,1,2,3,4,5,6,7,8]),(10,some [0,1,2,3,4,5,6,7,8,9]),(7,some [0,1,2,3,4,5,6,8,9,10,11]),(11,none),(12,some [0,1,2,3,4,5,6,7,8,9,10,11]),(13,none),(14,some [0,1,2,3,4,5,6,7,8,9,10,11,12,13]),(15,none)]),(21,[(0,some [1,2,3,4,5,6,7,8,9,10,11]),(1,some [0,2,3,4,5,6,7,8,9,10,11]),(2,some [0,1,3,4,5,6,7,8,9,10,11,12,13]),(3,some [0,1,2,4,5,6,7,8,9,10,11,12,13]),(4,some [0,1,2,3,5,8,9,10,11]),(5,some [0,1,2,3,4,8,9,10,11]),(6,some [0,1,2,3,4,5,8,9,10,11]),(8,some [0,1,2,3,4,5,6,7,9]),(9,some [0,1,2,3,4,5,6,7,8]),(10,some [0,1,2,3,4,5,6,7,8,9]),(7,some [0,1,2,3,4,5,6,8,9,10,11]),(11,none),(12,some [0,1,2,3,4,5,6,7,8,9,10,11]),(13,none),(14,some [0,1,2,3,4,5,6,7,8,9,10,11,12,13]),(15,none)])]
theorem B159_ok:regsO B159 Tryz.f159.body=true:=by kernel_rfl
theorem F159_ok:FOk Tryz.prog 159 (FI.of Tryz.f159 T159 B159):=FOk.of Tryz.func159 rfl T159_ok B159_ok Tryz.call159
def T160:Tab:=[(3,ti3),(5,ti5),(9,ti9),(26,ti26)]
theorem T160_ok:TabOk Tryz.prog T160:=.cons tk3 <| .cons tk5 <| .cons tk9 <| .cons tk26 <| .nil mixed
def B160:SchT:=[]
theorem B160_ok:regsO B160 Tryz.f160.body=true:=by kernel_rfl
theorem F160_ok:FOk Tryz.prog 160 (FI.of Tryz.f160 T160 B160):=FOk.of Tryz.func160 rfl T160_ok B160_ok Tryz.call160
def T161:Tab:=[(3,ti3),(5,ti5),(9,ti9),(22,ti22)]
theorem T161_ok:TabOk Tryz.prog T161:=.cons tk3 <| .cons tk5 <| .cons tk9 <| .cons tk22 <| .nil mixed
def B161:SchT:=[]
theorem B161_ok:regsO B161 Tryz.f161.body=true:=by kernel_rfl
theorem F161_ok:FOk Tryz.prog 161 (FI.of Tryz.f161 T161 B161):=FOk.of Tryz.func161 rfl T161_ok B161_ok Tryz.call161
def T162:Tab:=[(5,ti5),(22,ti22),(23,ti23)]
theorem T162_ok:TabOk Tryz.prog T162:=.cons tk5 <| .cons tk22 <| .cons tk23 <| .nil mixed
def B162:SchT:=[]
theorem B162_ok:regsO B162 Tryz.f162.body=true:=by kernel_rfl
theorem F162_ok:FOk Tryz.prog 162 (FI.of Tryz.f162 T162 B162):=FOk.of Tryz.func162 rfl T162_ok B162_ok Tryz.call162
def T163:Tab:=[(3,ti3),(4,ti4),(168,ti168)]
theorem T163_ok:TabOk Tryz.prog T163:=.cons tk3 <| .cons tk4 <| .cons tk168 <| .nil mixed
def B163:SchT:=[]
theorem B163_ok:regsO B163 Tryz.f163.body=true:=by kernel_rfl
theorem F163_ok:FOk Tryz.prog 163 (FI.of Tryz.f163 T163 B163):=FOk.of Tryz.func163 rfl T163_ok B163_ok Tryz.call163
def T164:Tab:=[(22,ti22),(170,ti170),(205,ti205)]
theorem T164_ok:TabOk Tryz.prog T164:=.cons tk22 <| .cons tk170 <| .cons tk205 <| .nil mixed
def B164:SchT:=[(1,[(1,some [0,5]),(0,some [1,5]),(2,some [0,1,5]),(3,some [0,1,2,5]),(4,some [0,1,2,3,5]),(5,none),(6,some [0,1,2,3,4,5]),(7,some [0,1,2,3,4,5,6])])]
theorem B164_ok:regsO B164 Tryz.f164.body=true:=by kernel_rfl
theorem F164_ok:FOk Tryz.prog 164 (FI.of Tryz.f164 T164 B164):=FOk.of Tryz.func164 rfl T164_ok B164_ok Tryz.call164
def T165:Tab:=[(5,ti5),(22,ti22),(23,ti23)]
theorem T165_ok:TabOk Tryz.prog T165:=.cons tk5 <| .cons tk22 <| .cons tk23 <| .nil mixed
def B165:SchT:=[]
theorem B165_ok:regsO B165 Tryz.f165.body=true:=by kernel_rfl
theorem F165_ok:FOk Tryz.prog 165 (FI.of Tryz.f165 T165 B165):=FOk.of Tryz.func165 rfl T165_ok B165_ok Tryz.call165
def T166:Tab:=[(3,ti3),(168,ti168),(170,ti170),(205,ti205),(245,ti245)]
theorem T166_ok:TabOk Tryz.prog T166:=.cons tk3 <| .cons tk168 <| .cons tk170 <| .cons tk205 <| .cons tk245 <| .nil mixed
def B166:SchT:=[]
theorem B166_ok:regsO B166 Tryz.f166.body=true:=by kernel_rfl
theorem F166_ok:FOk Tryz.prog 166 (FI.of Tryz.f166 T166 B166):=FOk.of Tryz.func166 rfl T166_ok B166_ok Tryz.call166
def T167:Tab:=[(3,ti3),(5,ti5),(22,ti22),(175,ti175),(205,ti205)]
theorem T167_ok:TabOk Tryz.prog T167:=.cons tk3 <| .cons tk5 <| .cons tk22 <| .cons tk175 <| .cons tk205 <| .nil mixed
def B167:SchT:=[(1,[(0,some [2,3,5,6,7,8]),(2,some [0,1,5,6,7,8]),(5,some [0,1,2,3,4,7,8]),(7,some [0,1,2,3,4,5,6]),(1,some [0,2,3,5,6,7,8]),(3,some [0,1,2,5,6,7,8]),(6,some [0,1,2,3,4,5,7,8]),(8,some [0,1,2,3,4,5,6,7]),(4,none),(9,none),(10,none),(11,none),(12,some [0,1,2,3,4,5,6,7,8,9,10,11])])]
theorem B167_ok:regsO B167 Tryz.f167.body=true:=by kernel_rfl
theorem F167_ok:FOk Tryz.prog 167 (FI.of Tryz.f167 T167 B167):=FOk.of Tryz.func167 rfl T167_ok B167_ok Tryz.call167
def T181:Tab:=[(3,ti3),(4,ti4),(5,ti5),(23,ti23)]
theorem T181_ok:TabOk Tryz.prog T181:=.cons tk3 <| .cons tk4 <| .cons tk5 <| .cons tk23 <| .nil mixed
def B181:SchT:=[(3,[(0,some [2]),(1,some [0,2]),(2,some [0,1]),(3,some [0,1,2]),(4,some [0,1,2,3]),(5,some [0,1,2,3,4,6,7,8,11,12,13,14,15,16,17]),(6,some [0,1,2,3,4,5,7,11,12,13,14,15,16,17]),(7,some [0,1,2,3,4,5,6,11,12,13,14,15,16,17]),(8,some [0,1,2,3,4,5,6,7,11,12,13,14,15,16,17]),(9,some [0,1,2,3,4,5,6,7,8,11,12,13,14,15,16,17]),(11,some [0,1,2,3,4,5,6,7,8,9,10,12,13,14,15]),(12,some [0,1,2,3,4,5,6,7,8,9,10,11,13]),(13,some [0,1,2,3,4,5,6,7,8,9,10,11,12]),(14,some [0,1,2,3,4,5,6,7,8,9,10,11,12,13]),(15,some [0,1,2,3,4,5,6,7,8,9,10,11,12,13,14]),(16,some [0,1,2,3,4,5,6,7,8,9,10,11,12,13,14,15]),(10,some [0,1,2,3,4,5,6,7,8,9,11,12,13,14,15,16,17]),(17,none),(18,none),(19,some [0,1,2,3,4,5,6,7,8,9,10,11,12,13,14,15,16,17,18])]),(5,[(0,some [1,2,3,6,7,8,9,10,11]),(1,some [0,2,6,7,8,9,10,11]),(2,some [0,1,6,7,8,9,10,11]),(3,some [0,1,2,6,7,8,9,10,11]),(4,some [0,1,2,3,6,7,8,9,10,11]),(6,some [0,1,2,3,4,5,7,8,9]),(7,some [0,1,2,3,4,5,6,8]),(8,some [0,1,2,3,4,5,6,7]),(9,some [0,1,2,3,4,5,6,7,8]),(10,some [0,1,2,3,4,5,6,7,8,9]),(5,some [0,1,2,3,4,6,7,8,9,10,11]),(11,none),(12,none),(13,some [0,1,2,3,4,5,6,7,8,9,10,11,12])]),(6,[(0,some [1,2,3,4,5,6,7,8,9,10,11,12,13,14,15,16,17,18,19]),(1,some [0,2,4,5,6,7,8,9,10,11,12,13,14,15,16,17,18,19]),(2,some [0,1,4,5,6,7,8,9,10,11,12,13,14,15,16,17,18,19]),(3,some [0,1,2,4,5,6,7,8,9,10,11,12,13,14,15,16,17,18,19]),(4,some [0,1,2,3,5,6,7,8,9,10,11,12,13,14,15,16,17,18,19,20,21]),(5,some [0,1,2,3,4,6,8,9,10,11,12,13,14,15,16,17,18,19,20,21]),(6,some [0,1,2,3,4,5,8,9,10,11,12,13,14,15,16,17,18,19,20,21]),(7,some [0,1,2,3,4,5,6,8,9,10,11,12,13,14,15,16,17,18,19,20,21]),(8,some [0,1,2,3,4,5,6,7,9,10,11,14,15,16,17,18,19]),(9,some [0,1,2,3,4,5,6,7,8,10,14,15,16,17,18,19]),(10,some [0,1,2,3,4,5,6,7,8,9,14,15,16,17,18,19]),(11,some [0,1,2,3,4,5,6,7,8,9,10,14,15,16,17,18,19]),(12,some [0,1,2,3,4,5,6,7,8,9,10,11,14,15,16,17,18,19]),(14,some [0,1,2,3,4,5,6,7,8,9,10,11,12,13,15,16,17]),(15,some [0,1,2,3,4,5,6,7,8,9,10,11,12,13,14,16]),(16,some [0,1,2,3,4,5,6,7,8,9,10,11,12,13,14,15]),(17,some [0,1,2,3,4,5,6,7,8,9,10,11,12,13,14,15,16]),(18,some [0,1,2,3,4,5,6,7,8,9,10,11,12,13,14,15,16,17]),(13,some [0,1,2,3,4,5,6,7,8,9,10,11,12,14,15,16,17,18,19]),(19,none),(20,some [0,1,2,3,4,5,6,7,8,9,10,11,12,13,14,15,16,17,18,19]),(21,none),(22,some [0,1,2,3,4,5,6,7,8,9,10,11,12,13,14,15,16,17,18,19,20,21]),(23,none)])]
theorem B181_ok:regsO B181 Tryz.f181.body=true:=by kernel_rfl
theorem F181_ok:FOk Tryz.prog 181 (FI.of Tryz.f181 T181 B181):=FOk.of Tryz.func181 rfl T181_ok B181_ok Tryz.call181
def T182:Tab:=[(3,ti3),(168,ti168)]
theorem T182_ok:TabOk Tryz.prog T182:=.cons tk3 <| .cons tk168 <| .nil mixed
def B182:SchT:=[]
theorem B182_ok:regsO B182 Tryz.f182.body=true:=by kernel_rfl
theorem F182_ok:FOk Tryz.prog 182 (FI.of Tryz.f182 T182 B182):=FOk.of Tryz.func182 rfl T182_ok B182_ok Tryz.call182
def T183:Tab:=[(259,ti259)]
theorem T183_ok:TabOk Tryz.prog T183:=.cons tk259 <| .nil mixed
def B183:SchT:=[(1,[(0,some [3,4,5,6]),(1,some [0,3,4,5,6]),(3,some [0,1,2]),(4,some [0,1,2,3]),(2,some [0,1,3,4,5,6]),(5,none),(6,some [0,1,2,3,4,5]),(7,some [0,1,2,3,4,5,6]),(8,some [0,1,2,3,4,5,6,7]),(9,none)]),(2,[(0,some [3,4,5,6]),(1,some [0,3,4,5,6]),(3,some [0,1,2]),(4,some [0,1,2,3]),(2,some [0,1,3,4,5,6]),(5,none),(6,some [0,1,2,3,4,5]),(7,some [0,1,2,3,4,5,6]),(8,some [0,1,2,3,4,5,6,7]),(9,none)]),(3,[(0,some [3,4,5,6]),(1,some [0,3,4,5,6]),(3,some [0,1,2]),(4,some [0,1,2,3]),(2,some [0,1,3,4,5,6]),(5,none),(6,some [0,1,2,3,4,5]),(7,some [0,1,2,3,4,5,6]),(8,some [0,1,2,3,4,5,6,7]),(9,none)])]
theorem B183_ok:regsO B183 Tryz.f183.body=true:=by kernel_rfl
theorem F183_ok:FOk Tryz.prog 183 (FI.of Tryz.f183 T183 B183):=FOk.of Tryz.func183 rfl T183_ok B183_ok Tryz.call183
def T184:Tab:=[(3,ti3),(5,ti5),(23,ti23),(262,ti262)]
theorem T184_ok:TabOk Tryz.prog T184:=.cons tk3 <| .cons tk5 <| .cons tk23 <| .cons tk262 <| .nil mixed
def B184:SchT:=[]
theorem B184_ok:regsO B184 Tryz.f184.body=true:=by kernel_rfl
theorem F184_ok:FOk Tryz.prog 184 (FI.of Tryz.f184 T184 B184):=FOk.of Tryz.func184 rfl T184_ok B184_ok Tryz.call184
def T185:Tab:=[(3,ti3),(5,ti5),(23,ti23),(262,ti262)]
theorem T185_ok:TabOk Tryz.prog T185:=.cons tk3 <| .cons tk5 <| .cons tk23 <| .cons tk262 <| .nil mixed
def B185:SchT:=[]
theorem B185_ok:regsO B185 Tryz.f185.body=true:=by kernel_rfl
theorem F185_ok:FOk Tryz.prog 185 (FI.of Tryz.f185 T185 B185):=FOk.of Tryz.func185 rfl T185_ok B185_ok Tryz.call185
def T186:Tab:=[(22,ti22)]
theorem T186_ok:TabOk Tryz.prog T186:=.cons tk22 <| .nil mixed
def B186:SchT:=[]
theorem B186_ok:regsO B186 Tryz.f186.body=true:=by kernel_rfl
theorem F186_ok:FOk Tryz.prog 186 (FI.of Tryz.f186 T186 B186):=FOk.of Tryz.func186 rfl T186_ok B186_ok Tryz.call186
def T187:Tab:=[(3,ti3),(5,ti5),(22,ti22),(23,ti23)]
theorem T187_ok:TabOk Tryz.prog T187:=.cons tk3 <| .cons tk5 <| .cons tk22 <| .cons tk23 <| .nil mixed
def B187:SchT:=[]
theorem B187_ok:regsO B187 Tryz.f187.body=true:=by kernel_rfl
theorem F187_ok:FOk Tryz.prog 187 (FI.of Tryz.f187 T187 B187):=FOk.of Tryz.func187 rfl T187_ok B187_ok Tryz.call187
def T188:Tab:=[(3,ti3),(4,ti4),(170,ti170),(205,ti205),(232,ti232),(245,ti245)]
theorem T188_ok:TabOk Tryz.prog T188:=.cons tk3 <| .cons tk4 <| .cons tk170 <| .cons tk205 <| .cons tk232 <| .cons tk245 <| .nil mixed
def B188:SchT:=[(17,[(0,some []),(1,some [0]),(2,some [0,1]),(3,some [0,1,2,4,5,6,7,8,9,10,11,12]),(4,some [0,1,2,3,5,6,9,10,11,12]),(5,some [0,1,2,3,4,9,10,11,12]),(6,some [0,1,2,3,4,5,9,10,11,12]),(7,some [0,1,2,3,4,5,6,9,10,11,12]),(9,some [0,1,2,3,4,5,6,7,8,10]),(10,some [0,1,2,3,4,5,6,7,8,9]),(11,some [0,1,2,3,4,5,6,7,8,9,10]),(8,some [0,1,2,3,4,5,6,7,9,10,11,12]),(12,none),(13,none),(14,some [0,1,2,3,4,5,6,7,8,9,10,11,12,13]),(15,some [0,1,2,3,4,5,6,7,8,9,10,11,12,13,14]),(16,some [0,1,2,3,4,5,6,7,8,9,10,11,12,13,14,15])])]
theorem B188_ok:regsO B188 Tryz.f188.body=true:=by kernel_rfl
theorem F188_ok:FOk Tryz.prog 188 (FI.of Tryz.f188 T188 B188):=FOk.of Tryz.func188 rfl T188_ok B188_ok Tryz.call188
def T194:Tab:=[(3,ti3),(5,ti5),(23,ti23)]
theorem T194_ok:TabOk Tryz.prog T194:=.cons tk3 <| .cons tk5 <| .cons tk23 <| .nil mixed
def B194:SchT:=[(1,[(0,some [1,4,5,6,7]),(1,some [0,4,5,6,7]),(2,some [0,1,4,5,6,7]),(4,some [0,1,2,3,5]),(5,some [0,1,2,3,4]),(6,some [0,1,2,3,4,5]),(3,some [0,1,2,4,5,6,7]),(7,none),(8,none)])]
theorem B194_ok:regsO B194 Tryz.f194.body=true:=by kernel_rfl
theorem F194_ok:FOk Tryz.prog 194 (FI.of Tryz.f194 T194 B194):=FOk.of Tryz.func194 rfl T194_ok B194_ok Tryz.call194
def T195:Tab:=[(3,ti3),(170,ti170),(205,ti205)]
theorem T195_ok:TabOk Tryz.prog T195:=.cons tk3 <| .cons tk170 <| .cons tk205 <| .nil mixed
def B195:SchT:=[(4,[(0,some [1]),(1,some [0]),(2,some [0,1]),(3,some [0,1,2]),(4,some [0,1,2,3,5,6,7,8,9,10,11,12,13]),(5,some [0,1,2,3,4,6,9,10,11,12,13]),(6,some [0,1,2,3,4,5,9,10,11,12,13]),(7,some [0,1,2,3,4,5,6,9,10,11,12,13]),(9,some [0,1,2,3,4,5,6,7,8,10,11]),(10,some [0,1,2,3,4,5,6,7,8,9]),(11,some [0,1,2,3,4,5,6,7,8,9,10]),(12,some [0,1,2,3,4,5,6,7,8,9,10,11]),(8,some [0,1,2,3,4,5,6,7,9,10,11,12,13]),(13,none),(14,none),(15,some [0,1,2,3,4,5,6,7,8,9,10,11,12,13,14]),(16,some [0,1,2,3,4,5,6,7,8,9,10,11,12,13,14,15])]),(6,[(0,some [1,2,3,4,5,6,7,8,9,10,11,12,13]),(1,some [0,2,3,4,5,6,7,8,9,10,11,12,13]),(2,some [0,1,3,4,5,6,7,8,9,10,11,12,13,14,15]),(3,some [0,1,2,5,6,7,8,9,10,11,12,13,14,15]),(4,some [0,1,2,3,5,6,7,8,9,10,11,12,13,14,15]),(5,some [0,1,2,3,4,6,7,10,11,12,13]),(6,some [0,1,2,3,4,5,10,11,12,13]),(7,some [0,1,2,3,4,5,6,10,11,12,13]),(8,some [0,1,2,3,4,5,6,7,10,11,12,13]),(10,some [0,1,2,3,4,5,6,7,8,9,11]),(11,some [0,1,2,3,4,5,6,7,8,9,10]),(12,some [0,1,2,3,4,5,6,7,8,9,10,11]),(9,some [0,1,2,3,4,5,6,7,8,10,11,12,13]),(13,none),(14,some [0,1,2,3,4,5,6,7,8,9,10,11,12,13]),(15,none),(16,some [0,1,2,3,4,5,6,7,8,9,10,11,12,13,14,15]),(17,none)])]
theorem B195_ok:regsO B195 Tryz.f195.body=true:=by kernel_rfl
theorem F195_ok:FOk Tryz.prog 195 (FI.of Tryz.f195 T195 B195):=FOk.of Tryz.func195 rfl T195_ok B195_ok Tryz.call195
def T196:Tab:=[(3,ti3),(170,ti170),(205,ti205),(245,ti245)]
theorem T196_ok:TabOk Tryz.prog T196:=.cons tk3 <| .cons tk170 <| .cons tk205 <| .cons tk245 <| .nil mixed
def B196:SchT:=[(10,[(0,some [1,2,3,4,5,6,7,8,9,10,11,12,13,14,15]),(1,some [0,2,3,4,5,6,7,8,9,10,11,12,13,14,15]),(2,some [0,1,3,4,5,6,7,8,9,10,11,12,13,14,15,16,17]),(3,some [0,1,2,4,6,7,8,9,10,11,12,13,14,15,16,17]),(4,some [0,1,2,3,6,7,8,9,10,11,12,13,14,15,16,17]),(5,some [0,1,2,3,4,6,7,8,9,10,11,12,13,14,15,16,17]),(6,some [0,1,2,3,4,5,7,8,9,12,13,14,15]),(7,some [0,1,2,3,4,5,6,8,12,13,14,15]),(8,some [0,1,2,3,4,5,6,7,12,13,14,15]),(9,some [0,1,2,3,4,5,6,7,8,12,13,14,15]),(10,some [0,1,2,3,4,5,6,7,8,9,12,13,14,15]),(12,some [0,1,2,3,4,5,6,7,8,9,10,11,13]),(13,some [0,1,2,3,4,5,6,7,8,9,10,11,12]),(14,some [0,1,2,3,4,5,6,7,8,9,10,11,12,13]),(11,some [0,1,2,3,4,5,6,7,8,9,10,12,13,14,15]),(15,none),(16,some [0,1,2,3,4,5,6,7,8,9,10,11,12,13,14,15]),(17,none),(18,some [0,1,2,3,4,5,6,7,8,9,10,11,12,13,14,15,16,17]),(19,none)])]
theorem B196_ok:regsO B196 Tryz.f196.body=true:=by kernel_rfl
theorem F196_ok:FOk Tryz.prog 196 (FI.of Tryz.f196 T196 B196):=FOk.of Tryz.func196 rfl T196_ok B196_ok Tryz.call196
def T197:Tab:=[(3,ti3),(168,ti168),(170,ti170),(205,ti205),(259,ti259)]
theorem T197_ok:TabOk Tryz.prog T197:=.cons tk3 <| .cons tk168 <| .cons tk170 <| .cons tk205 <| .cons tk259 <| .nil mixed
def B197:SchT:=[(10,[(0,some [1,2,3,4,5,6,7,8,9,10,11,12,13,14,15]),(1,some [0,2,3,4,5,6,7,8,9,10,11,12,13,14,15]),(2,some [0,1,3,4,5,6,7,8,9,10,11,12,13,14,15,16,17]),(3,some [0,1,2,4,6,7,8,9,10,11,12,13,14,15,16,17]),(4,some [0,1,2,3,6,7,8,9,10,11,12,13,14,15,16,17]),(5,some [0,1,2,3,4,6,7,8,9,10,11,12,13,14,15,16,17]),(6,some [0,1,2,3,4,5,7,8,9,12,13,14,15]),(7,some [0,1,2,3,4,5,6,8,12,13,14,15]),(8,some [0,1,2,3,4,5,6,7,12,13,14,15]),(9,some [0,1,2,3,4,5,6,7,8,12,13,14,15]),(10,some [0,1,2,3,4,5,6,7,8,9,12,13,14,15]),(12,some [0,1,2,3,4,5,6,7,8,9,10,11,13]),(13,some [0,1,2,3,4,5,6,7,8,9,10,11,12]),(14,some [0,1,2,3,4,5,6,7,8,9,10,11,12,13]),(11,some [0,1,2,3,4,5,6,7,8,9,10,12,13,14,15]),(15,none),(16,some [0,1,2,3,4,5,6,7,8,9,10,11,12,13,14,15]),(17,none),(18,some [0,1,2,3,4,5,6,7,8,9,10,11,12,13,14,15,16,17]),(19,none)])]
theorem B197_ok:regsO B197 Tryz.f197.body=true:=by kernel_rfl
theorem F197_ok:FOk Tryz.prog 197 (FI.of Tryz.f197 T197 B197):=FOk.of Tryz.func197 rfl T197_ok B197_ok Tryz.call197
def T198:Tab:=[(3,ti3),(170,ti170),(205,ti205),(245,ti245),(262,ti262)]
theorem T198_ok:TabOk Tryz.prog T198:=.cons tk3 <| .cons tk170 <| .cons tk205 <| .cons tk245 <| .cons tk262 <| .nil mixed
def B198:SchT:=[]
theorem B198_ok:regsO B198 Tryz.f198.body=true:=by kernel_rfl
theorem F198_ok:FOk Tryz.prog 198 (FI.of Tryz.f198 T198 B198):=FOk.of Tryz.func198 rfl T198_ok B198_ok Tryz.call198
def T199:Tab:=[(3,ti3),(170,ti170),(205,ti205)]
theorem T199_ok:TabOk Tryz.prog T199:=.cons tk3 <| .cons tk170 <| .cons tk205 <| .nil mixed
def B199:SchT:=[(3,[(0,some [1,2,3,4,5,6,7,8,9,10,11]),(1,some [0,2,3,4,5,6,7,8,9,10,11]),(2,some [0,1,3,4,5,6,7,8,9,10,11,12,13]),(3,some [0,1,2,4,5,6,7,8,9,10,11,12,13]),(4,some [0,1,2,3,5,8,9,10,11]),(5,some [0,1,2,3,4,8,9,10,11]),(6,some [0,1,2,3,4,5,8,9,10,11]),(8,some [0,1,2,3,4,5,6,7,9]),(9,some [0,1,2,3,4,5,6,7,8]),(10,some [0,1,2,3,4,5,6,7,8,9]),(7,some [0,1,2,3,4,5,6,8,9,10,11]),(11,none),(12,some [0,1,2,3,4,5,6,7,8,9,10,11]),(13,none),(14,some [0,1,2,3,4,5,6,7,8,9,10,11,12,13]),(15,none)])]
theorem B199_ok:regsO B199 Tryz.f199.body=true:=by kernel_rfl
theorem F199_ok:FOk Tryz.prog 199 (FI.of Tryz.f199 T199 B199):=FOk.of Tryz.func199 rfl T199_ok B199_ok Tryz.call199
def T200:Tab:=[(3,ti3),(4,ti4),(170,ti170),(205,ti205)]
theorem T200_ok:TabOk Tryz.prog T200:=.cons tk3 <| .cons tk4 <| .cons tk170 <| .cons tk205 <| .nil mixed
def B200:SchT:=[(5,[(0,some [1]),(1,some [0]),(2,some [0,1]),(3,some [0,1,2]),(4,some [0,1,2,3,5,6,7,8,9,10,11,12,13]),(5,some [0,1,2,3,4,6,9,10,11,12,13]),(6,some [0,1,2,3,4,5,9,10,11,12,13]),(7,some [0,1,2,3,4,5,6,9,10,11,12,13]),(9,some [0,1,2,3,4,5,6,7,8,10,11]),(10,some [0,1,2,3,4,5,6,7,8,9]),(11,some [0,1,2,3,4,5,6,7,8,9,10]),(12,some [0,1,2,3,4,5,6,7,8,9,10,11]),(8,some [0,1,2,3,4,5,6,7,9,10,11,12,13]),(13,none),(14,none),(15,some [0,1,2,3,4,5,6,7,8,9,10,11,12,13,14]),(16,some [0,1,2,3,4,5,6,7,8,9,10,11,12,13,14,15]),(17,some [0,1,2,3,4,5,6,7,8,9,10,11,12,13,14,15,16])]),(11,[(0,some [1,2,3,4,5,6,7,8,9,10,11,12,13]),(1,some [0,2,3,4,5,6,7,8,9,10,11,12,13]),(2,some [0,1,3,4,5,6,7,8,9,10,11,12,13,14,15]),(3,some [0,1,2,5,6,7,8,9,10,11,12,13,14,15]),(4,some [0,1,2,3,5,6,7,8,9,10,11,12,13,14,15]),(5,some [0,1,2,3,4,6,7,10,11,12,13]),(6,some [0,1,2,3,4,5,10,11,12,13]),(7,some [0,1,2,3,4,5,6,10,11,12,13]),(8,some [0,1,2,3,4,5,6,7,10,11,12,13]),(10,some [0,1,2,3,4,5,6,7,8,9,11]),(11,some [0,1,2,3,4,5,6,7,8,9,10]),(12,some [0,1,2,3,4,5,6,7,8,9,10,11]),(9,some [0,1,2,3,4,5,6,7,8,10,11,12,13]),(13,none),(14,some [0,1,2,3,4,5,6,7,8,9,10,11,12,13]),(15,none),(16,some [0,1,2,3,4,5,6,7,8,9,10,11,12,13,14,15]),(17,none)]),(16,[(0,some [1,2,3,4,5,6,7,8,9]),(1,some [0,2,5,6,7,8,9]),(2,some [0,1,5,6,7,8,9]),(3,some [0,1,2,5,6,7,8,9]),(5,some [0,1,2,3,4,6,7]),(6,some [0,1,2,3,4,5]),(7,some [0,1,2,3,4,5,6]),(8,some [0,1,2,3,4,5,6,7]),(4,some [0,1,2,3,5,6,7,8,9]),(9,none),(10,none),(11,some [0,1,2,3,4,5,6,7,8,9,10]),(12,some [0,1,2,3,4,5,6,7,8,9,10,11])]),(17,[(0,some [1,2,3,4,5,6,7,8,9,10,11,12,13]),(1,some [0,2,3,4,5,6,7,8,9,10,11,12,13]),(2,some [0,1,3,4,5,6,7,8,9,10,11,12,13,14,15]),(3,some [0,1,2,5,6,7,8,9,10,11,12,13,14,15]),(4,some [0,1,2,3,5,6,7,8,9,10,11,12,13,14,15]),(5,some [0,1,2,3,4,6,7,10,11,12,13]),(6,some [0,1,2,3,4,5,10,11,12,13]),(7,some [0,1,2,3,4,5,6,10,11,12,13]),(8,some [0,1,2,3,4,5,6,7,10,11,12,13]),(10,some [0,1,2,3,4,5,6,7,8,9,11]),(11,some [0,1,2,3,4,5,6,7,8,9,10]),(12,some [0,1,2,3,4,5,6,7,8,9,10,11]),(9,some [0,1,2,3,4,5,6,7,8,10,11,12,13]),(13,none),(14,some [0,1,2,3,4,5,6,7,8,9,10,11,12,13]),(15,none),(16,some [0,1,2,3,4,5,6,7,8,9,10,11,12,13,14,15]),(17,none)]),(22,[(0,some [1,2,3,4,5,6,7,8,9]),(1,some [0,2,5,6,7,8,9]),(2,some [0,1,5,6,7,8,9]),(3,some [0,1,2,5,6,7,8,9]),(5,some [0,1,2,3,4,6,7]),(6,some [0,1,2,3,4,5]),(7,some [0,1,2,3,4,5,6]),(8,some [0,1,2,3,4,5,6,7]),(4,some [0,1,2,3,5,6,7,8,9]),(9,none),(10,none),(11,some [0,1,2,3,4,5,6,7,8,9,10]),(12,some [0,1,2,3,4,5,6,7,8,9,10,11])]),(23,[(0,some [1,2,3,4,5,6,7,8,9,10,11,12,13]),(1,some [0,2,3,4,5,6,7,8,9,10,11,12,13]),(2,some [0,1,3,4,5,6,7,8,9,10,11,12,13,14,15]),(3,some [0,1,2,5,6,7,8,9,10,11,12,13,14,15]),(4,some [0,1,2,3,5,6,7,8,9,10,11,12,13,14,15]),(5,some [0,1,2,3,4,6,7,10,11,12,13]),(6,some [0,1,2,3,4,5,10,11,12,13]),(7,some [0,1,2,3,4,5,6,10,11,12,13]),(8,some [0,1,2,3,4,5,6,7,10,11,12,13]),(10,some [0,1,2,3,4,5,6,7,8,9,11]),(11,some [0,1,2,3,4,5,6,7,8,9,10]),(12,some [0,1,2,3,4,5,6,7,8,9,10,11]),(9,some [0,1,2,3,4,5,6,7,8,10,11,12,13]),(13,none),(14,some [0,1,2,3,4,5,6,7,8,9,10,11,12,13]),(15,none),(16,some [0,1,2,3,4,5,6,7,8,9,10,11,12,13,14,15]),(17,none)])]
theorem B200_ok:regsO B200 Tryz.f200.body=true:=by kernel_rfl
theorem F200_ok:FOk Tryz.prog 200 (FI.of Tryz.f200 T200 B200):=FOk.of Tryz.func200 rfl T200_ok B200_ok Tryz.call200
def T201:Tab:=[(3,ti3),(4,ti4),(170,ti170),(205,ti205)]
theorem T201_ok:TabOk Tryz.prog T201:=.cons tk3 <| .cons tk4 <| .cons tk170 <| .cons tk205 <| .nil mixed
def B201:SchT:=[(1,[(0,some [1,2,3,4,5,6,7,8,9,10,11]),(1,some [0,2,3,4,5,6,7,8,9,10,11]),(2,some [0,1,3,4,5,6,7,8,9,10,11,12,13]),(3,some [0,1,2,4,5,6,7,8,9,10,11,12,13]),(4,some [0,1,2,3,5,8,9,10,11]),(5,some [0,1,2,3,4,8,9,10,11]),(6,some [0,1,2,3,4,5,8,9,10,11]),(8,some [0,1,2,3,4,5,6,7,9]),(9,some [0,1,2,3,4,5,6,7,8]),(10,some [0,1,2,3,4,5,6,7,8,9]),(7,some [0,1,2,3,4,5,6,8,9,10,11]),(11,none),(12,some [0,1,2,3,4,5,6,7,8,9,10,11]),(13,none),(14,some [0,1,2,3,4,5,6,7,8,9,10,11,12,13]),(15,none)]),(3,[(0,some [1]),(1,some [0]),(2,some [0,1]),(3,some [0,1,2]),(4,some [0,1,2,3,5,6,7,8,9,10,11,12]),(5,some [0,1,2,3,4,6,9,10,11,12]),(6,some [0,1,2,3,4,5,9,10,11,12]),(7,some [0,1,2,3,4,5,6,9,10,11,12]),(9,some [0,1,2,3,4,5,6,7,8,10]),(10,some [0,1,2,3,4,5,6,7,8,9]),(11,some [0,1,2,3,4,5,6,7,8,9,10]),(8,some [0,1,2,3,4,5,6,7,9,10,11,12]),(12,none),(13,none),(14,some [0,1,2,3,4,5,6,7,8,9,10,11,12,13]),(15,some [0,1,2,3,4,5,6,7,8,9,10,11,12,13,14]),(16,some [0,1,2,3,4,5,6,7,8,9,10,11,12,13,14,15])]),(5,[(0,some [1]),(1,some [0]),(2,some [0,1]),(3,some [0,1,2]),(4,some [0,1,2,3,5,6,7,8,9,10,11,12]),(5,some [0,1,2,3,4,6,9,10,11,12]),(6,some [0,1,2,3,4,5,9,10,11,12]),(7,some [0,1,2,3,4,5,6,9,10,11,12]),(9,some [0,1,2,3,4,5,6,7,8,10]),(10,some [0,1,2,3,4,5,6,7,8,9]),(11,some [0,1,2,3,4,5,6,7,8,9,10]),(8,some [0,1,2,3,4,5,6,7,9,10,11,12]),(12,none),(13,none),(14,some [0,1,2,3,4,5,6,7,8,9,10,11,12,13]),(15,some [0,1,2,3,4,5,6,7,8,9,10,11,12,13,14])]),(8,[(0,some [1,2,3,4,5,6,7,8,9,10,11]),(1,some [0,2,3,4,5,6,7,8,9,10,11]),(2,some [0,1,3,4,5,6,7,8,9,10,11,12,13]),(3,some [0,1,2,4,5,6,7,8,9,10,11,12,13]),(4,some [0,1,2,3,5,8,9,10,11]),(5,some [0,1,2,3,4,8,9,10,11]),(6,some [0,1,2,3,4,5,8,9,10,11]),(8,some [0,1,2,3,4,5,6,7,9]),(9,some [0,1,2,3,4,5,6,7,8]),(10,some [0,1,2,3,4,5,6,7,8,9]),(7,some [0,1,2,3,4,5,6,8,9,10,11]),(11,none),(12,some [0,1,2,3,4,5,6,7,8,9,10,11]),(13,none),(14,some [0,1,2,3,4,5,6,7,8,9,10,11,12,13]),(15,none)])]
theorem B201_ok:regsO B201 Tryz.f201.body=true:=by kernel_rfl
theorem F201_ok:FOk Tryz.prog 201 (FI.of Tryz.f201 T201 B201):=FOk.of Tryz.func201 rfl T201_ok B201_ok Tryz.call201
def T202:Tab:=[(3,ti3),(4,ti4),(170,ti170),(205,ti205)]
theorem T202_ok:TabOk Tryz.prog T202:=.cons tk3 <| .cons tk4 <| .cons tk170 <| .cons tk205 <| .nil mixed
def B202:SchT:=[(1,[(0,some [1,2,3,4,5,6,7,8,9,10,11]),(1,some [0,2,3,4,5,6,7,8,9,10,11]),(2,some [0,1,3,4,5,6,7,8,9,10,11,12,13]),(3,some [0,1,2,4,5,6,7,8,9,10,11,12,13]),(4,some [0,1,2,3,5,8,9,10,11]),(5,some [0,1,2,3,4,8,9,10,11]),(6,some [0,1,2,3,4,5,8,9,10,11]),(8,some [0,1,2,3,4,5,6,7,9]),(9,some [0,1,2,3,4,5,6,7,8]),(10,some [0,1,2,3,4,5,6,7,8,9]),(7,some [0,1,2,3,4,5,6,8,9,10,11]),(11,none),(12,some [0,1,2,3,4,5,6,7,8,9,10,11]),(13,none),(14,some [0,1,2,3,4,5,6,7,8,9,10,11,12,13]),(15,none)]),(3,[(0,some [1]),(1,some [0]),(2,some [0,1]),(3,some [0,1,2]),(4,some [0,1,2,3,5,6,7,8,9,10,11,12]),(5,some [0,1,2,3,4,6,9,10,11,12]),(6,some [0,1,2,3,4,5,9,10,11,12]),(7,some [0,1,2,3,4,5,6,9,10,11,12]),(9,some [0,1,2,3,4,5,6,7,8,10]),(10,some [0,1,2,3,4,5,6,7,8,9]),(11,some [0,1,2,3,4,5,6,7,8,9,10]),(8,some [0,1,2,3,4,5,6,7,9,10,11,12]),(12,none),(13,none),(14,some [0,1,2,3,4,5,6,7,8,9,10,11,12,13]),(15,some [0,1,2,3,4,5,6,7,8,9,10,11,12,13,14])]),(5,[(0,some [1]),(1,some [0]),(2,some [0,1]),(3,some [0,1,2]),(4,some [0,1,2,3,5,6,7,8,9,10,11,12]),(5,some [0,1,2,3,4,6,9,10,11,12]),(6,some [0,1,2,3,4,5,9,10,11,12]),(7,some [0,1,2,3,4,5,6,9,10,11,12]),(9,some [0,1,2,3,4,5,6,7,8,10]),(10,some [0,1,2,3,4,5,6,7,8,9]),(11,some [0,1,2,3,4,5,6,7,8,9,10]),(8,some [0,1,2,3,4,5,6,7,9,10,11,12]),(12,none),(13,none),(14,some [0,1,2,3,4,5,6,7,8,9,10,11,12,13]),(15,some [0,1,2,3,4,5,6,7,8,9,10,11,12,13,14]),(16,some [0,1,2,3,4,5,6,7,8,9,10,11,12,13,14,15])]),(8,[(0,some [1,2,3,4,5,6,7,8,9,10,11]),(1,some [0,2,3,4,5,6,7,8,9,10,11]),(2,some [0,1,3,4,5,6,7,8,9,10,11,12,13]),(3,some [0,1,2,4,5,6,7,8,9,10,11,12,13]),(4,some [0,1,2,3,5,8,9,10,11]),(5,some [0,1,2,3,4,8,9,10,11]),(6,some [0,1,2,3,4,5,8,9,10,11]),(8,some [0,1,2,3,4,5,6,7,9]),(9,some [0,1,2,3,4,5,6,7,8]),(10,some [0,1,2,3,4,5,6,7,8,9]),(7,some [0,1,2,3,4,5,6,8,9,10,11]),(11,none),(12,some [0,1,2,3,4,5,6,7,8,9,10,11]),(13,none),(14,some [0,1,2,3,4,5,6,7,8,9,10,11,12,13]),(15,none)]),(10,[(0,some [1,2,3,4,5,6,7,8,9,10,11]),(1,some [0,2,3,4,5,6,7,8,9,10,11]),(2,some [0,1,3,4,5,6,7,8,9,10,11,12,13]),(3,some [0,1,2,4,5,6,7,8,9,10,11,12,13]),(4,some [0,1,2,3,5,8,9,10,11]),(5,some [0,1,2,3,4,8,9,10,11]),(6,some [0,1,2,3,4,5,8,9,10,11]),(8,some [0,1,2,3,4,5,6,7,9]),(9,some [0,1,2,3,4,5,6,7,8]),(10,some [0,1,2,3,4,5,6,7,8,9]),(7,some [0,1,2,3,4,5,6,8,9,10,11]),(11,none),(12,some [0,1,2,3,4,5,6,7,8,9,10,11]),(13,none),(14,some [0,1,2,3,4,5,6,7,8,9,10,11,12,13]),(15,none)]),(13,[(0,some [1]),(1,some [0]),(2,some [0,1]),(3,some [0,1,2]),(4,some [0,1,2,3,5,6,7,8,9,10,11,12]),(5,some [0,1,2,3,4,6,9,10,11,12]),(6,some [0,1,2,3,4,5,9,10,11,12]),(7,some [0,1,2,3,4,5,6,9,10,11,12]),(9,some [0,1,2,3,4,5,6,7,8,10]),(10,some [0,1,2,3,4,5,6,7,8,9]),(11,some [0,1,2,3,4,5,6,7,8,9,10]),(8,some [0,1,2,3,4,5,6,7,9,10,11,12]),(12,none),(13,none),(14,some [0,1,2,3,4,5,6,7,8,9,10,11,12,13]),(15,some [0,1,2,3,4,5,6,7,8,9,10,11,12,13,14])]),(15,[(0,some [1]),(1,some [0]),(2,some [0,1]),(3,some [0,1,2]),(4,some [0,1,2,3,5,6,7,8,9,10,11,12]),(5,some [0,1,2,3,4,6,9,10,11,12]),(6,some [0,1,2,3,4,5,9,10,11,12]),(7,some [0,1,2,3,4,5,6,9,10,11,12]),(9,some [0,1,2,3,4,5,6,7,8,10]),(10,some [0,1,2,3,4,5,6,7,8,9]),(11,some [0,1,2,3,4,5,6,7,8,9,10]),(8,some [0,1,2,3,4,5,6,7,9,10,11,12]),(12,none),(13,none),(14,some [0,1,2,3,4,5,6,7,8,9,10,11,12,13]),(15,some [0,1,2,3,4,5,6,7,8,9,10,11,12,13,14]),(16,some [0,1,2,3,4,5,6,7,8,9,10,11,12,13,14,15])]),(18,[(0,some [1,2,3,4,5,6,7,8,9,10,11]),(1,some [0,2,3,4,5,6,7,8,9,10,11]),(2,some [0,1,3,4,5,6,7,8,9,10,11,12,13]),(3,some [0,1,2,4,5,6,7,8,9,10,11,12,13]),(4,some [0,1,2,3,5,8,9,10,11]),(5,some [0,1,2,3,4,8,9,10,11]),(6,some [0,1,2,3,4,5,8,9,10,11]),(8,some [0,1,2,3,4,5,6,7,9]),(9,some [0,1,2,3,4,5,6,7,8]),(10,some [0,1,2,3,4,5,6,7,8,9]),(7,some [0,1,2,3,4,5,6,8,9,10,11]),(11,none),(12,some [0,1,2,3,4,5,6,7,8,9,10,11]),(13,none),(14,some [0,1,2,3,4,5,6,7,8,9,10,11,12,13]),(15,none)]),(21,[(0,some [1,2,3,4,5,6,7,8,9,10,11]),(1,some [0,2,3,4,5,6,7,8,9,10,11]),(2,some [0,1,3,4,5,6,7,8,9,10,11,12,13]),(3,some [0,1,2,4,5,6,7,8,9,10,11,12,13]),(4,some [0,1,2,3,5,8,9,10,11]),(5,some [0,1,2,3,4,8,9,10,11]),(6,some [0,1,2,3,4,5,8,9,10,11]),(8,some [0,1,2,3,4,5,6,7,9]),(9,some [0,1,2,3,4,5,6,7,8]),(10,some [0,1,2,3,4,5,6,7,8,9]),(7,some [0,1,2,3,4,5,6,8,9,10,11]),(11,none),(12,some [0,1,2,3,4,5,6,7,8,9,10,11]),(13,none),(14,some [0,1,2,3,4,5,6,7,8,9,10,11,12,13]),(15,none)])]
theorem B202_ok:regsO B202 Tryz.f202.body=true:=by kernel_rfl
theorem F202_ok:FOk Tryz.prog 202 (FI.of Tryz.f202 T202 B202):=FOk.of Tryz.func202 rfl T202_ok B202_ok Tryz.call202
def T210:Tab:=[(3,ti3),(4,ti4),(170,ti170),(205,ti205)]
theorem T210_ok:TabOk Tryz.prog T210:=.cons tk3 <| .cons tk4 <| .cons tk170 <| .cons tk205 <| .nil mixed
def B210:SchT:=[(3,[(0,some [2]),(1,some [0,2]),(2,some [0,1]),(3,some [0,1,2]),(4,some [0,1,2,3]),(5,some [0,1,2,3,4,6,7,8,9,10,11,12,13,14,15,16,17,18]),(6,some [0,1,2,3,4,5,7,8,9,12,13,14,15,16,17,18]),(7,some [0,1,2,3,4,5,6,8,12,13,14,15,16,17,18]),(8,some [0,1,2,3,4,5,6,7,12,13,14,15,16,17,18]),(9,some [0,1,2,3,4,5,6,7,8,12,13,14,15,16,17,18]),(10,some [0,1,2,3,4,5,6,7,8,9,12,13,14,15,16,17,18]),(12,some [0,1,2,3,4,5,6,7,8,9,10,11,13,14,15,16]),(13,some [0,1,2,3,4,5,6,7,8,9,10,11,12,14]),(14,some [0,1,2,3,4,5,6,7,8,9,10,11,12,13]),(15,some [0,1,2,3,4,5,6,7,8,9,10,11,12,13,14]),(16,some [0,1,2,3,4,5,6,7,8,9,10,11,12,13,14,15]),(17,some [0,1,2,3,4,5,6,7,8,9,10,11,12,13,14,15,16]),(11,some [0,1,2,3,4,5,6,7,8,9,10,12,13,14,15,16,17,18]),(18,none),(19,none),(20,some [0,1,2,3,4,5,6,7,8,9,10,11,12,13,14,15,16,17,18,19]),(21,some [0,1,2,3,4,5,6,7,8,9,10,11,12,13,14,15,16,17,18,19,20])]),(5,[(0,some [1,2,3,4,5,6,7,8,9,10,11,12]),(1,some [0,2,3,4,7,8,9,10,11,12]),(2,some [0,1,3,7,8,9,10,11,12]),(3,some [0,1,2,7,8,9,10,11,12]),(4,some [0,1,2,3,7,8,9,10,11,12]),(5,some [0,1,2,3,4,7,8,9,10,11,12]),(7,some [0,1,2,3,4,5,6,8,9,10]),(8,some [0,1,2,3,4,5,6,7,9]),(9,some [0,1,2,3,4,5,6,7,8]),(10,some [0,1,2,3,4,5,6,7,8,9]),(11,some [0,1,2,3,4,5,6,7,8,9,10]),(6,some [0,1,2,3,4,5,7,8,9,10,11,12]),(12,none),(13,none),(14,some [0,1,2,3,4,5,6,7,8,9,10,11,12,13]),(15,some [0,1,2,3,4,5,6,7,8,9,10,11,12,13,14])]),(6,[(0,some [1,2,3,4,5,6,7,8,9,10,11,12,13,14,15,16,17,18,19]),(1,some [0,2,4,5,6,7,8,9,10,11,12,13,14,15,16,17,18,19]),(2,some [0,1,4,5,6,7,8,9,10,11,12,13,14,15,16,17,18,19]),(3,some [0,1,2,4,5,6,7,8,9,10,11,12,13,14,15,16,17,18,19]),(4,some [0,1,2,3,5,6,7,8,9,10,11,12,13,14,15,16,17,18,19,20,21]),(5,some [0,1,2,3,4,6,8,9,10,11,12,13,14,15,16,17,18,19,20,21]),(6,some [0,1,2,3,4,5,8,9,10,11,12,13,14,15,16,17,18,19,20,21]),(7,some [0,1,2,3,4,5,6,8,9,10,11,12,13,14,15,16,17,18,19,20,21]),(8,some [0,1,2,3,4,5,6,7,9,10,11,14,15,16,17,18,19]),(9,some [0,1,2,3,4,5,6,7,8,10,14,15,16,17,18,19]),(10,some [0,1,2,3,4,5,6,7,8,9,14,15,16,17,18,19]),(11,some [0,1,2,3,4,5,6,7,8,9,10,14,15,16,17,18,19]),(12,some [0,1,2,3,4,5,6,7,8,9,10,11,14,15,16,17,18,19]),(14,some [0,1,2,3,4,5,6,7,8,9,10,11,12,13,15,16,17]),(15,some [0,1,2,3,4,5,6,7,8,9,10,11,12,13,14,16]),(16,some [0,1,2,3,4,5,6,7,8,9,10,11,12,13,14,15]),(17,some [0,1,2,3,4,5,6,7,8,9,10,11,12,13,14,15,16]),(18,some [0,1,2,3,4,5,6,7,8,9,10,11,12,13,14,15,16,17]),(13,some [0,1,2,3,4,5,6,7,8,9,10,11,12,14,15,16,17,18,19]),(19,none),(20,some [0,1,2,3,4,5,6,7,8,9,10,11,12,13,14,15,16,17,18,19]),(21,none),(22,some [0,1,2,3,4,5,6,7,8,9,10,11,12,13,14,15,16,17,18,19,20,21]),(23,none)])]
theorem B210_ok:regsO B210 Tryz.f210.body=true:=by kernel_rfl
theorem F210_ok:FOk Tryz.prog 210 (FI.of Tryz.f210 T210 B210):=FOk.of Tryz.func210 rfl T210_ok B210_ok Tryz.call210
def T211:Tab:=[(3,ti3),(170,ti170),(205,ti205),(245,ti245),(262,ti262)]
theorem T211_ok:TabOk Tryz.prog T211:=.cons tk3 <| .cons tk170 <| .cons tk205 <| .cons tk245 <| .cons tk262 <| .nil mixed
def B211:SchT:=[]
theorem B211_ok:regsO B211 Tryz.f211.body=true:=by kernel_rfl
theorem F211_ok:FOk Tryz.prog 211 (FI.of Tryz.f211 T211 B211):=FOk.of Tryz.func211 rfl T211_ok B211_ok Tryz.call211
def T212:Tab:=[(3,ti3),(170,ti170),(205,ti205),(245,ti245),(262,ti262)]
theorem T212_ok:TabOk Tryz.prog T212:=.cons tk3 <| .cons tk170 <| .cons tk205 <| .cons tk245 <| .cons tk262 <| .nil mixed
def B212:SchT:=[]
theorem B212_ok:regsO B212 Tryz.f212.body=true:=by kernel_rfl
theorem F212_ok:FOk Tryz.prog 212 (FI.of Tryz.f212 T212 B212):=FOk.of Tryz.func212 rfl T212_ok B212_ok Tryz.call212
def T220:Tab:=[(3,ti3),(170,ti170),(205,ti205)]
theorem T220_ok:TabOk Tryz.prog T220:=.cons tk3 <| .cons tk170 <| .cons tk205 <| .nil mixed
def B220:SchT:=[(1,[(0,some [1,2,3,4,5,6,7,8]),(1,some [0,2,5,6,7,8]),(2,some [0,1,5,6,7,8]),(3,some [0,1,2,5,6,7,8]),(5,some [0,1,2,3,4,6]),(6,some [0,1,2,3,4,5]),(7,some [0,1,2,3,4,5,6]),(4,some [0,1,2,3,5,6,7,8]),(8,none),(9,none),(10,some [0,1,2,3,4,5,6,7,8,9])])]
theorem B220_ok:regsO B220 Tryz.f220.body=true:=by kernel_rfl
theorem F220_ok:FOk Tryz.prog 220 (FI.of Tryz.f220 T220 B220):=FOk.of Tryz.func220 rfl T220_ok B220_ok Tryz.call220
noncomputable def FALL:FT:=[(33,FI.of Tryz.f33 T33 B33),(34,FI.of Tryz.f34 T34 B34),(41,FI.of Tryz.f41 T41 B41),(42,FI.of Tryz.f42 T42 B42),(43,FI.of Tryz.f43 T43 B43),(49,FI.of Tryz.f49 T49 B49),(61,FI.of Tryz.f61 T61 B61),(67,FI.of Tryz.f67 T67 B67),(68,FI.of Tryz.f68 T68 B68),(69,FI.of Tryz.f69 T69 B69),(70,FI.of Tryz.f70 T70 B70),(71,FI.of Tryz.f71 T71 B71),(72,FI.of Tryz.f72 T72 B72),(73,FI.of Tryz.f73 T73 B73),(74,FI.of Tryz.f74 T74 B74),(75,FI.of Tryz.f75 T75 B75),(76,FI.of Tryz.f76 T76 B76),(77,FI.of Tryz.f77 T77 B77),(78,FI.of Tryz.f78 T78 B78),(81,FI.of Tryz.f81 T81 B81),(82,FI.of Tryz.f82 T82 B82),(83,FI.of Tryz.f83 T83 B83),(84,FI.of Tryz.f84 T84 B84),(85,FI.of Tryz.f85 T85 B85),(97,FI.of Tryz.f97 T97 B97),(98,FI.of Tryz.f98 T98 B98),(99,FI.of Tryz.f99 T99 B99),(100,FI.of Tryz.f100 T100 B100),(101,FI.of Tryz.f101 T101 B101),(102,FI.of Tryz.f102 T102 B102),(103,FI.of Tryz.f103 T103 B103),(104,FI.of Tryz.f104 T104 B104),(106,FI.of Tryz.f106 T106 B106),(107,FI.of Tryz.f107 T107 B107),(108,FI.of Tryz.f108 T108 B108),(109,FI.of Tryz.f109 T109 B109),(110,FI.of Tryz.f110 T110 B110),(111,FI.of Tryz.f111 T111 B111),(112,FI.of Tryz.f112 T112 B112),(113,FI.of Tryz.f113 T113 B113),(114,FI.of Tryz.f114 T114 B114),(115,FI.of Tryz.f115 T115 B115),(116,FI.of Tryz.f116 T116 B116),(117,FI.of Tryz.f117 T117 B117),(118,FI.of Tryz.f118 T118 B118),(127,FI.of Tryz.f127 T127 B127),(128,FI.of Tryz.f128 T128 B128),(129,FI.of Tryz.f129 T129 B129),(130,FI.of Tryz.f130 T130 B130),(131,FI.of Tryz.f131 T131 B131),(132,FI.of Tryz.f132 T132 B132),(133,FI.of Tryz.f133 T133 B133),(134,FI.of Tryz.f134 T134 B134),(135,FI.of Tryz.f135 T135 B135),(136,FI.of Tryz.f136 T136 B136),(137,FI.of Tryz.f137 T137 B137),(139,FI.of Tryz.f139 T139 B139),(140,FI.of Tryz.f140 T140 B140),(141,FI.of Tryz.f141 T141 B141),(151,FI.of Tryz.f151 T151 B151),(152,FI.of Tryz.f152 T152 B152),(153,FI.of Tryz.f153 T153 B153),(154,FI.of Tryz.f154 T154 B154),(155,FI.of Tryz.f155 T155 B155),(156,FI.of Tryz.f156 T156 B156),(157,FI.of Tryz.f157 T157 B157),(158,FI.of Tryz.f158 T158 B158),(159,FI.of Tryz.f159 T159 B159),(160,FI.of Tryz.f160 T160 B160),(161,FI.of Tryz.f161 T161 B161),(162,FI.of Tryz.f162 T162 B162),(163,FI.of Tryz.f163 T163 B163),(164,FI.of Tryz.f164 T164 B164),(165,FI.of Tryz.f165 T165 B165),(166,FI.of Tryz.f166 T166 B166),(167,FI.of Tryz.f167 T167 B167),(181,FI.of Tryz.f181 T181 B181),(182,FI.of Tryz.f182 T182 B182),(183,FI.of Tryz.f183 T183 B183),(184,FI.of Tryz.f184 T184 B184),(185,FI.of Tryz.f185 T185 B185),(186,FI.of Tryz.f186 T186 B186),(187,FI.of Tryz.f187 T187 B187),(188,FI.of Tryz.f188 T188 B188),(194,FI.of Tryz.f194 T194 B194),(195,FI.of Tryz.f195 T195 B195),(196,FI.of Tryz.f196 T196 B196),(197,FI.of Tryz.f197 T197 B197),(198,FI.of Tryz.f198 T198 B198),(199,FI.of Tryz.f199 T199 B199),(200,FI.of Tryz.f200 T200 B200),(201,FI.of Tryz.f201 T201 B201),(202,FI.of Tryz.f202 T202 B202),(210,FI.of Tryz.f210 T210 B210),(211,FI.of Tryz.f211 T211 B211),(212,FI.of Tryz.f212 T212 B212),(220,FI.of Tryz.f220 T220 B220)]
theorem FALL_ok:FTok Tryz.prog FALL:=.cons F33_ok <| .cons F34_ok <| .cons F41_ok <| .cons F42_ok <| .cons F43_ok <| .cons F49_ok <| .cons F61_ok <| .cons F67_ok <| .cons F68_ok <| .cons F69_ok <| .cons F70_ok <| .cons F71_ok <| .cons F72_ok <| .cons F73_ok <| .cons F74_ok <| .cons F75_ok <| .cons F76_ok <| .cons F77_ok <| .cons F78_ok <| .cons F81_ok <| .cons F82_ok <| .cons F83_ok <| .cons F84_ok <| .cons F85_ok <| .cons F97_ok <| .cons F98_ok <| .cons F99_ok <| .cons F100_ok <| .cons F101_ok <| .cons F102_ok <| .cons F103_ok <| .cons F104_ok <| .cons F106_ok <| .cons F107_ok <| .cons F108_ok <| .cons F109_ok <| .cons F110_ok <| .cons F111_ok <| .cons F112_ok <| .cons F113_ok <| .cons F114_ok <| .cons F115_ok <| .cons F116_ok <| .cons F117_ok <| .cons F118_ok <| .cons F127_ok <| .cons F128_ok <| .cons F129_ok <| .cons F130_ok <| .cons F131_ok <| .cons F132_ok <| .cons F133_ok <| .cons F134_ok <| .cons F135_ok <| .cons F136_ok <| .cons F137_ok <| .cons F139_ok <| .cons F140_ok <| .cons F141_ok <| .cons F151_ok <| .cons F152_ok <| .cons F153_ok <| .cons F154_ok <| .cons F155_ok <| .cons F156_ok <| .cons F157_ok <| .cons F158_ok <| .cons F159_ok <| .cons F160_ok <| .cons F161_ok <| .cons F162_ok <| .cons F163_ok <| .cons F164_ok <| .cons F165_ok <| .cons F166_ok <| .cons F167_ok <| .cons F181_ok <| .cons F182_ok <| .cons F183_ok <| .cons F184_ok <| .cons F185_ok <| .cons F186_ok <| .cons F187_ok <| .cons F188_ok <| .cons F194_ok <| .cons F195_ok <| .cons F196_ok <| .cons F197_ok <| .cons F198_ok <| .cons F199_ok <| .cons F200_ok <| .cons F201_ok <| .cons F202_ok <| .cons F210_ok <| .cons F211_ok <| .cons F212_ok <| .cons F220_ok .nil
end Go.Proofs.YthaffebapmkppaaGreat
