import Derived.Test.YthpbefahaghbjaaGreatProg
import Derived.Test.YthpbefahaghbjaaGreatEC
namespace Go.Proofs.YthpbefahaghbjaaGreat
open Go.Eng
theorem mixed:Tryz.prog.follows .mixedOrders=true:=by kernel_rfl
def ti2:TI:=⟨false,1,8,[.int .i64 (.lit 0)],.int .i64,none⟩
theorem tk2:TI.of Tryz.prog 2=some ti2:=by kernel_rfl
def ti3:TI:=⟨false,1,8,[.int .i64 (.lit 0)],.int .i64,none⟩
theorem tk3:TI.of Tryz.prog 3=some ti3:=by kernel_rfl
def ti4:TI:=⟨false,1,1,[.bool (.lit false)],.bool,none⟩
theorem tk4:TI.of Tryz.prog 4=some ti4:=by kernel_rfl
def ti5:TI:=⟨false,1,1,[.int .u8 (.lit 0)],.int .u8,none⟩
theorem tk5:TI.of Tryz.prog 5=some ti5:=by kernel_rfl
def ti9:TI:=⟨false,1,16,[.raw (Value.string { data:=#[] })],.string,none⟩
theorem tk9:TI.of Tryz.prog 9=some ti9:=by kernel_rfl
def ti22:TI:=⟨false,1,24,[.raw (Value.slice none 0 0)],.slice 45,none⟩
theorem tk22:TI.of Tryz.prog 22=some ti22:=by kernel_rfl
def ti25:TI:=⟨false,1,8,[.raw (Value.pointer none)],.pointer,none⟩
theorem tk25:TI.of Tryz.prog 25=some ti25:=by kernel_rfl
def ti27:TI:=⟨false,1,24,[.raw (Value.slice none 0 0)],.slice 49,none⟩
theorem tk27:TI.of Tryz.prog 27=some ti27:=by kernel_rfl
def ti29:TI:=⟨false,1,8,[.int .u64 (.lit 0)],.int .u64,none⟩
theorem tk29:TI.of Tryz.prog 29=some ti29:=by kernel_rfl
def ti30:TI:=⟨false,1,24,[.raw (Value.slice none 0 0)],.slice 5,none⟩
theorem tk30:TI.of Tryz.prog 30=some ti30:=by kernel_rfl
def ti32:TI:=⟨true,3,56,[.int .u64 (.lit 0),.raw (Value.slice none 0 0),.raw (Value.slice none 0 0)],.struct [(0,1,false),(1,1,false),(2,1,false)],none⟩
theorem tk32:TI.of Tryz.prog 32=some ti32:=by kernel_rfl
def ti33:TI:=⟨false,1,4,[.int .u32 (.lit 0)],.int .u32,none⟩
theorem tk33:TI.of Tryz.prog 33=some ti33:=by kernel_rfl
def ti35:TI:=⟨true,3,16,[.int .u64 (.lit 0),.int .u8 (.lit 0),.int .u32 (.lit 0)],.struct [(0,1,false),(1,1,false),(2,1,false)],some [true,true,true]⟩
theorem tk35:TI.of Tryz.prog 35=some ti35:=by kernel_rfl
def ti36:TI:=⟨false,1,24,[.raw (Value.slice none 0 0)],.slice 2,none⟩
theorem tk36:TI.of Tryz.prog 36=some ti36:=by kernel_rfl
def ti37:TI:=⟨false,1,24,[.raw (Value.slice none 0 0)],.slice 89,none⟩
theorem tk37:TI.of Tryz.prog 37=some ti37:=by kernel_rfl
def ti38:TI:=⟨false,1,24,[.raw (Value.slice none 0 0)],.slice 96,none⟩
theorem tk38:TI.of Tryz.prog 38=some ti38:=by kernel_rfl
def ti39:TI:=⟨false,1,24,[.raw (Value.slice none 0 0)],.slice 99,none⟩
theorem tk39:TI.of Tryz.prog 39=some ti39:=by kernel_rfl
def ti41:TI:=⟨true,8,128,[.int .u8 (.lit 0),.int .u64 (.lit 0),.int .i64 (.lit 0),.raw (Value.slice none 0 0),.raw (Value.slice none 0 0),.raw (Value.slice none 0 0),.int .u64 (.lit 0),.raw (Value.slice none 0 0)],.struct [(0,1,false),(1,1,false),(2,1,false),(3,1,false),(4,1,false),(5,1,false),(6,1,false),(7,1,false)],none⟩
theorem tk41:TI.of Tryz.prog 41=some ti41:=by kernel_rfl
def ti43:TI:=⟨true,15,168,[.bool (.lit false),.int .u64 (.lit 0),.int .u8 (.lit 0),.int .u32 (.lit 0),.int .u64 (.lit 0),.int .u8 (.lit 0),.int .u32 (.lit 0),.int .u8 (.lit 0),.int .u64 (.lit 0),.int .i64 (.lit 0),.raw (Value.slice none 0 0),.raw (Value.slice none 0 0),.raw (Value.slice none 0 0),.int .u64 (.lit 0),.raw (Value.slice none 0 0)],.struct [(0,1,false),(1,3,true),(4,3,true),(7,8,true)],none⟩
theorem tk43:TI.of Tryz.prog 43=some ti43:=by kernel_rfl
def ti45:TI:=⟨true,21,248,[.int .u8 (.lit 0),.int .u64 (.lit 0),.raw (Value.slice none 0 0),.raw (Value.slice none 0 0),.int .u8 (.lit 0),.bool (.lit false),.int .u64 (.lit 0),.int .u8 (.lit 0),.int .u32 (.lit 0),.int .u64 (.lit 0),.int .u8 (.lit 0),.int .u32 (.lit 0),.int .u8 (.lit 0),.int .u64 (.lit 0),.int .i64 (.lit 0),.raw (Value.slice none 0 0),.raw (Value.slice none 0 0),.raw (Value.slice none 0 0),.int .u64 (.lit 0),.raw (Value.slice none 0 0),.int .i64 (.lit 0)],.struct [(0,1,false),(1,3,true),(4,1,false),(5,15,true),(20,1,false)],none⟩
theorem tk45:TI.of Tryz.prog 45=some ti45:=by kernel_rfl
def ti49:TI:=⟨true,13,160,[.int .u8 (.lit 0),.int .u64 (.lit 0),.int .u8 (.lit 0),.int .u32 (.lit 0),.int .u8 (.lit 0),.int .u64 (.lit 0),.int .i64 (.lit 0),.raw (Value.slice none 0 0),.raw (Value.slice none 0 0),.raw (Value.slice none 0 0),.int .u64 (.lit 0),.raw (Value.slice none 0 0),.int .i64 (.lit 0)],.struct [(0,1,false),(1,3,true),(4,8,true),(12,1,false)],none⟩
theorem tk49:TI.of Tryz.prog 49=some ti49:=by kernel_rfl
def ti58:TI:=⟨false,1,8,[.raw (Value.map none)],.map 64 65,none⟩
theorem tk58:TI.of Tryz.prog 58=some ti58:=by kernel_rfl
def ti60:TI:=⟨true,4,64,[.raw (Value.map none),.raw (Value.slice none 0 0),.raw (Value.slice none 0 0),.bool (.lit false)],.struct [(0,1,false),(1,1,false),(2,1,false),(3,1,false)],none⟩
theorem tk60:TI.of Tryz.prog 60=some ti60:=by kernel_rfl
def ti64:TI:=⟨true,4,24,[.int .u8 (.lit 0),.int .u64 (.lit 0),.int .u8 (.lit 0),.int .u32 (.lit 0)],.struct [(0,1,false),(1,3,true)],some [true,true,true,true]⟩
theorem tk64:TI.of Tryz.prog 64=some ti64:=by kernel_rfl
def ti65:TI:=⟨false,1,8,[.raw (Value.pointer none)],.pointer,none⟩
theorem tk65:TI.of Tryz.prog 65=some ti65:=by kernel_rfl
def ti70:TI:=⟨true,13,200,[.int .u64 (.lit 0),.raw (Value.slice none 0 0),.raw (Value.slice none 0 0),.int .u8 (.lit 0),.int .u64 (.lit 0),.int .i64 (.lit 0),.raw (Value.slice none 0 0),.raw (Value.slice none 0 0),.raw (Value.slice none 0 0),.int .u64 (.lit 0),.raw (Value.slice none 0 0),.int .u64 (.lit 0),.bool (.lit false)],.struct [(0,3,true),(3,8,true),(11,1,false),(12,1,false)],none⟩
theorem tk70:TI.of Tryz.prog 70=some ti70:=by kernel_rfl
def ti76:TI:=⟨false,1,8,[.raw (Value.nilFunc)],.other,none⟩
theorem tk76:TI.of Tryz.prog 76=some ti76:=by kernel_rfl
def ti79:TI:=⟨false,1,8,[.raw (Value.nilFunc)],.other,none⟩
theorem tk79:TI.of Tryz.prog 79=some ti79:=by kernel_rfl
def ti85:TI:=⟨false,1,8,[.int .i64 (.lit 0)],.int .i64,none⟩
theorem tk85:TI.of Tryz.prog 85=some ti85:=by kernel_rfl
def ti87:TI:=⟨true,4,48,[.int .i64 (.lit 0),.int .u64 (.lit 0),.int .i64 (.lit 0),.raw (Value.slice none 0 0)],.struct [(0,1,false),(1,1,false),(2,1,false),(3,1,false)],none⟩
theorem tk87:TI.of Tryz.prog 87=some ti87:=by kernel_rfl
def ti89:TI:=⟨true,6,64,[.int .u8 (.lit 0),.int .u64 (.lit 0),.int .i64 (.lit 0),.int .u64 (.lit 0),.int .i64 (.lit 0),.raw (Value.slice none 0 0)],.struct [(0,1,false),(1,1,false),(2,4,true)],none⟩
theorem tk89:TI.of Tryz.prog 89=some ti89:=by kernel_rfl
def ti96:TI:=⟨true,4,32,[.int .u64 (.lit 0),.int .u8 (.lit 0),.int .i64 (.lit 0),.int .i64 (.lit 0)],.struct [(0,1,false),(1,1,false),(2,1,false),(3,1,false)],some [true,true,true,true]⟩
theorem tk96:TI.of Tryz.prog 96=some ti96:=by kernel_rfl
def ti99:TI:=⟨true,3,24,[.int .u8 (.lit 0),.int .u64 (.lit 0),.int .u64 (.lit 0)],.struct [(0,1,false),(1,1,false),(2,1,false)],some [true,true,true]⟩
theorem tk99:TI.of Tryz.prog 99=some ti99:=by kernel_rfl
def ti103:TI:=⟨false,1,8,[.raw (Value.nilFunc)],.other,none⟩
theorem tk103:TI.of Tryz.prog 103=some ti103:=by kernel_rfl
def ti108:TI:=⟨false,1,24,[.raw (Value.slice none 0 0)],.slice 30,none⟩
theorem tk108:TI.of Tryz.prog 108=some ti108:=by kernel_rfl
def ti113:TI:=⟨false,1,8,[.int .u64 (.lit 0)],.int .u64,none⟩
theorem tk113:TI.of Tryz.prog 113=some ti113:=by kernel_rfl
def ti121:TI:=⟨false,1,8,[.int .i64 (.lit 0)],.int .i64,none⟩
theorem tk121:TI.of Tryz.prog 121=some ti121:=by kernel_rfl
def ti129:TI:=⟨false,1,24,[.raw (Value.slice none 0 0)],.slice 3,none⟩
theorem tk129:TI.of Tryz.prog 129=some ti129:=by kernel_rfl
def ti135:TI:=⟨false,1,24,[.raw (Value.slice none 0 0)],.slice 148,none⟩
theorem tk135:TI.of Tryz.prog 135=some ti135:=by kernel_rfl
def ti140:TI:=⟨false,1,8,[.int .u64 (.lit 0)],.int .u64,none⟩
theorem tk140:TI.of Tryz.prog 140=some ti140:=by kernel_rfl
def ti144:TI:=⟨false,1,8,[.raw (Value.pointer none)],.pointer,none⟩
theorem tk144:TI.of Tryz.prog 144=some ti144:=by kernel_rfl
def ti148:TI:=⟨true,2,16,[.int .u64 (.lit 0),.int .u8 (.lit 0)],.struct [(0,1,false),(1,1,false)],some [true,true]⟩
theorem tk148:TI.of Tryz.prog 148=some ti148:=by kernel_rfl
def ti152:TI:=⟨false,1,8,[.raw (Value.nilFunc)],.other,none⟩
theorem tk152:TI.of Tryz.prog 152=some ti152:=by kernel_rfl
def ti153:TI:=⟨true,256,256,rep 256 ([.bool (.lit false)]),.array 256 4,none⟩
theorem tk153:TI.of Tryz.prog 153=some ti153:=by kernel_rfl
def ti155:TI:=⟨false,1,8,[.raw (Value.nilFunc)],.other,none⟩
theorem tk155:TI.of Tryz.prog 155=some ti155:=by kernel_rfl
def B2:SchT:=[]
def T4:Tab:=[(3,ti3),(4,ti4),(5,ti5),(22,ti22),(25,ti25),(27,ti27),(32,ti32),(43,ti43),(45,ti45),(49,ti49)]
theorem T4_ok:TabOk Tryz.prog T4:=.cons tk3 <| .cons tk4 <| .cons tk5 <| .cons tk22 <| .cons tk25 <| .cons tk27 <| .cons tk32 <| .cons tk43 <| .cons tk45 <| .cons tk49 <| .nil mixed
def B4:SchT:=[]
theorem B4_ok:regsO B4 Tryz.f4.body=true:=by kernel_rfl
def T6:Tab:=[(3,ti3),(5,ti5),(22,ti22),(30,ti30),(32,ti32),(41,ti41),(43,ti43),(45,ti45)]
theorem T6_ok:TabOk Tryz.prog T6:=.cons tk3 <| .cons tk5 <| .cons tk22 <| .cons tk30 <| .cons tk32 <| .cons tk41 <| .cons tk43 <| .cons tk45 <| .nil mixed
def B6:SchT:=[]
theorem B6_ok:regsO B6 Tryz.f6.body=true:=by kernel_rfl
def T7:Tab:=[(3,ti3),(4,ti4),(5,ti5),(25,ti25),(27,ti27),(30,ti30),(32,ti32),(35,ti35),(43,ti43),(49,ti49)]
theorem T7_ok:TabOk Tryz.prog T7:=.cons tk3 <| .cons tk4 <| .cons tk5 <| .cons tk25 <| .cons tk27 <| .cons tk30 <| .cons tk32 <| .cons tk35 <| .cons tk43 <| .cons tk49 <| .nil mixed
def B7:SchT:=[]
theorem B7_ok:regsO B7 Tryz.f7.body=true:=by kernel_rfl
def T8:Tab:=[(58,ti58),(60,ti60),(65,ti65)]
theorem T8_ok:TabOk Tryz.prog T8:=.cons tk58 <| .cons tk60 <| .cons tk65 <| .nil mixed
def B8:SchT:=[]
theorem B8_ok:regsO B8 Tryz.f8.body=true:=by kernel_rfl
def T9:Tab:=[(4,ti4),(5,ti5),(25,ti25),(27,ti27),(29,ti29),(30,ti30),(32,ti32),(35,ti35),(41,ti41),(43,ti43),(49,ti49),(58,ti58),(60,ti60),(64,ti64),(65,ti65),(70,ti70)]
theorem T9_ok:TabOk Tryz.prog T9:=.cons tk4 <| .cons tk5 <| .cons tk25 <| .cons tk27 <| .cons tk29 <| .cons tk30 <| .cons tk32 <| .cons tk35 <| .cons tk41 <| .cons tk43 <| .cons tk49 <| .cons tk58 <| .cons tk60 <| .cons tk64 <| .cons tk65 <| .cons tk70 <| .nil mixed
def B9:SchT:=[(3,[(0,some [4]),(1,some [0,4]),(2,some [0,1,4]),(3,some [0,1,2,4]),(4,none),(5,none),(6,some [0,1,2,3,4,5]),(7,some [0,1,2,3,4,5,6,8]),(8,some [0,1,2,3,4,5,6,7,9]),(9,some [0,1,2,3,4,5,6,7,8]),(10,some [0,1,2,3,4,5,6,7,8,9])]),(5,[(0,some [2,3,4,5,6,7,9,10,11]),(2,some [0,1,5,6,9,10]),(5,some [0,1,2,3,4,9,10]),(9,some [0,1,2,3,4,5,6,7,8]),(1,some [0,2,3,4,5,6,7,9,10,11]),(3,some [0,1,2,5,6,9,10]),(6,some [0,1,2,3,4,5,9,10]),(10,some [0,1,2,3,4,5,6,7,8,9]),(4,none),(7,none),(8,some [0,1,2,3,4,5,6,7,9,10,11]),(11,none),(12,some [0,1,2,3,4,5,6,7,8,9,10,11]),(13,none),(14,some [0,1,2,3,4,5,6,7,8,9,10,11,12,13])]),(6,[(0,some [4,5]),(1,some [0,4,5]),(2,some [0,1,4,5]),(5,some [0,1,2,3,4]),(3,some [0,1,2,4,5]),(4,none),(6,none)]),(7,[(0,some [1,2,3,4,5,6,7,8,9,10,11,12,13,14]),(1,some [0,5,6,7,8,9,10,11,12,13]),(2,some [0,1,5,6,7,8,9,10,11,12,13]),(3,some [0,1,2,5,6,7,8,9,10,11,12,13]),(5,some [0,1,2,3,4,6,7,8,9,10,11]),(6,some [0,1,2,3,4,5,8,9,10,11]),(8,some [0,1,2,3,4,5,6,7,11]),(11,some [0,1,2,3,4,5,6,7,8,9,10]),(4,some [0,1,2,3,5,6,7,8,9,10,11,12,13]),(7,some [0,1,2,3,4,5,6,8,9,10,11]),(9,none),(10,none),(12,some [0,1,2,3,4,5,6,7,8,9,10,11]),(13,none),(14,none),(15,some [0,1,2,3,4,5,6,7,8,9,10,11,12,13,14]),(16,some [0,1,2,3,4,5,6,7,8,9,10,11,12,13,14,15]),(17,none)]),(8,[(0,some [4]),(1,some [0,4]),(2,some [0,1,4]),(3,some [0,1,2,4]),(4,none),(5,none),(6,some [0,1,2,3,4,5]),(7,some [0,1,2,3,4,5,6]),(8,some [0,1,2,3,4,5,6,7,12,13]),(9,some [0,1,2,3,4,5,6,7,8,12,13]),(10,some [0,1,2,3,4,5,6,7,8,9,12,13]),(12,some [0,1,2,3,4,5,6,7,8,9,10,11]),(11,some [0,1,2,3,4,5,6,7,8,9,10,12,13]),(13,none),(14,none),(15,some [0,1,2,3,4,5,6,7,8,9,10,11,12,13,14]),(16,some [0,1,2,3,4,5,6,7,8,9,10,11,12,13,14,15])]),(12,[(0,some [4,5,6,7,8]),(1,some [0,4,5,6,7,8]),(2,some [0,1,4,5,6,7,8]),(4,some [0,1,2,3,5,6,7,8]),(5,some [0,1,2,3,4]),(6,some [0,1,2,3,4,5]),(7,some [0,1,2,3,4,5,6]),(3,some [0,1,2,4,5,6,7,8]),(8,none),(9,none)]),(14,[(0,some [1,2,3,4,5,6,7,8,9,10,11,12,13,14,15,16]),(1,some [0,5,6,7,8,9,10,11,12,13,14,15]),(2,some [0,1,5,6,7,8,9,10,11,12,13,14,15]),(3,some [0,1,2,5,6,7,8,9,10,11,12,13,14,15]),(5,some [0,1,2,3,4,6,7,8,9,10,11,12,13]),(6,some [0,1,2,3,4,5,8,9,10,11,12,13]),(8,some [0,1,2,3,4,5,6,7,13]),(9,some [0,1,2,3,4,5,6,7,8,13]),(10,some [0,1,2,3,4,5,6,7,8,9,13]),(13,some [0,1,2,3,4,5,6,7,8,9,10,11,12]),(4,some [0,1,2,3,5,6,7,8,9,10,11,12,13,14,15]),(7,some [0,1,2,3,4,5,6,8,9,10,11,12,13]),(11,none),(12,none),(14,some [0,1,2,3,4,5,6,7,8,9,10,11,12,13]),(15,none),(16,none),(17,some [0,1,2,3,4,5,6,7,8,9,10,11,12,13,14,15,16]),(18,some [0,1,2,3,4,5,6,7,8,9,10,11,12,13,14,15,16,17]),(19,none)])]
theorem B9_ok:regsO B9 Tryz.f9.body=true:=by kernel_rfl
def T10:Tab:=[(25,ti25),(27,ti27),(49,ti49),(60,ti60)]
theorem T10_ok:TabOk Tryz.prog T10:=.cons tk25 <| .cons tk27 <| .cons tk49 <| .cons tk60 <| .nil mixed
def B10:SchT:=[]
theorem B10_ok:regsO B10 Tryz.f10.body=true:=by kernel_rfl
def T11:Tab:=[(3,ti3),(4,ti4),(5,ti5),(27,ti27),(35,ti35),(41,ti41),(49,ti49)]
theorem T11_ok:TabOk Tryz.prog T11:=.cons tk3 <| .cons tk4 <| .cons tk5 <| .cons tk27 <| .cons tk35 <| .cons tk41 <| .cons tk49 <| .nil mixed
def B11:SchT:=[(6,[(0,some [1,5,6,7,8,9]),(1,some [0,5,6,7,8,9]),(2,some [0,1,5,6,7,8,9]),(3,some [0,1,2,5,6,7,8,9]),(5,some [0,1,2,3,4,6]),(6,some [0,1,2,3,4,5]),(7,some [0,1,2,3,4,5,6]),(8,some [0,1,2,3,4,5,6,7]),(4,some [0,1,2,3,5,6,7,8,9]),(9,none),(10,some [0,1,2,3,4,5,6,7,8,9]),(11,some [0,1,2,3,4,5,6,7,8,9,10]),(12,some [0,1,2,3,4,5,6,7,8,9,10,11,13,17,18,19,20,21]),(13,some [0,1,2,3,4,5,6,7,8,9,10,11,12,17,18,19,20,21]),(14,some [0,1,2,3,4,5,6,7,8,9,10,11,12,13,17,18,19,20,21]),(15,some [0,1,2,3,4,5,6,7,8,9,10,11,12,13,14,17,18,19,20,21]),(17,some [0,1,2,3,4,5,6,7,8,9,10,11,12,13,14,15,16,18]),(18,some [0,1,2,3,4,5,6,7,8,9,10,11,12,13,14,15,16,17]),(19,some [0,1,2,3,4,5,6,7,8,9,10,11,12,13,14,15,16,17,18]),(20,some [0,1,2,3,4,5,6,7,8,9,10,11,12,13,14,15,16,17,18,19]),(16,some [0,1,2,3,4,5,6,7,8,9,10,11,12,13,14,15,17,18,19,20,21]),(21,none),(22,some [0,1,2,3,4,5,6,7,8,9,10,11,12,13,14,15,16,17,18,19,20,21]),(23,some [0,1,2,3,4,5,6,7,8,9,10,11,12,13,14,15,16,17,18,19,20,21,22]),(24,some [0,1,2,3,4,5,6,7,8,9,10,11,12,13,14,15,16,17,18,19,20,21,22,23]),(25,some [0,1,2,3,4,5,6,7,8,9,10,11,12,13,14,15,16,17,18,19,20,21,22,23,24,26,30,31,32,33,34]),(26,some [0,1,2,3,4,5,6,7,8,9,10,11,12,13,14,15,16,17,18,19,20,21,22,23,24,25,30,31,32,33,34]),(27,some [0,1,2,3,4,5,6,7,8,9,10,11,12,13,14,15,16,17,18,19,20,21,22,23,24,25,26,30,31,32,33,34]),(28,some [0,1,2,3,4,5,6,7,8,9,10,11,12,13,14,15,16,17,18,19,20,21,22,23,24,25,26,27,30,31,32,33,34]),(30,some [0,1,2,3,4,5,6,7,8,9,10,11,12,13,14,15,16,17,18,19,20,21,22,23,24,25,26,27,28,29,31]),(31,some [0,1,2,3,4,5,6,7,8,9,10,11,12,13,14,15,16,17,18,19,20,21,22,23,24,25,26,27,28,29,30]),(32,some [0,1,2,3,4,5,6,7,8,9,10,11,12,13,14,15,16,17,18,19,20,21,22,23,24,25,26,27,28,29,30,31]),(33,some [0,1,2,3,4,5,6,7,8,9,10,11,12,13,14,15,16,17,18,19,20,21,22,23,24,25,26,27,28,29,30,31,32]),(29,some [0,1,2,3,4,5,6,7,8,9,10,11,12,13,14,15,16,17,18,19,20,21,22,23,24,25,26,27,28,30,31,32,33,34]),(34,none),(35,some [0,1,2,3,4,5,6,7,8,9,10,11,12,13,14,15,16,17,18,19,20,21,22,23,24,25,26,27,28,29,30,31,32,33,34]),(36,some [0,1,2,3,4,5,6,7,8,9,10,11,12,13,14,15,16,17,18,19,20,21,22,23,24,25,26,27,28,29,30,31,32,33,34,35]),(37,some [0,1,2,3,4,5,6,7,8,9,10,11,12,13,14,15,16,17,18,19,20,21,22,23,24,25,26,27,28,29,30,31,32,33,34,35,36]),(38,some [0,1,2,3,4,5,6,7,8,9,10,11,12,13,14,15,16,17,18,19,20,21,22,23,24,25,26,27,28,29,30,31,32,33,34,35,36,37,39,43,44,45,46,47]),(39,some [0,1,2,3,4,5,6,7,8,9,10,11,12,13,14,15,16,17,18,19,20,21,22,23,24,25,26,27,28,29,30,31,32,33,34,35,36,37,38,43,44,45,46,47]),(40,some [0,1,2,3,4,5,6,7,8,9,10,11,12,13,14,15,16,17,18,19,20,21,22,23,24,25,26,27,28,29,30,31,32,33,34,35,36,37,38,39,43,44,45,46,47]),(41,some [0,1,2,3,4,5,6,7,8,9,10,11,12,13,14,15,16,17,18,19,20,21,22,23,24,25,26,27,28,29,30,31,32,33,34,35,36,37,38,39,40,43,44,45,46,47]),(43,some [0,1,2,3,4,5,6,7,8,9,10,11,12,13,14,15,16,17,18,19,20,21,22,23,24,25,26,27,28,29,30,31,32,33,34,35,36,37,38,39,40,41,42,44]),(44,some [0,1,2,3,4,5,6,7,8,9,10,11,12,13,14,15,16,17,18,19,20,21,22,23,24,25,26,27,28,29,30,31,32,33,34,35,36,37,38,39,40,41,42,43]),(45,some [0,1,2,3,4,5,6,7,8,9,10,11,12,13,14,15,16,17,18,19,20,21,22,23,24,25,26,27,28,29,30,31,32,33,34,35,36,37,38,39,40,41,42,43,44]),(46,some [0,1,2,3,4,5,6,7,8,9,10,11,12,13,14,15,16,17,18,19,20,21,22,23,24,25,26,27,28,29,30,31,32,33,34,35,36,37,38,39,40,41,42,43,44,45]),(42,some [0,1,2,3,4,5,6,7,8,9,10,11,12,13,14,15,16,17,18,19,20,21,22,23,24,25,26,27,28,29,30,31,32,33,34,35,36,37,38,39,40,41,43,44,45,46,47]),(47,none),(48,none),(49,some [0,1,2,3,4,5,6,7,8,9,10,11,12,13,14,15,16,17,18,19,20,21,22,23,24,25,26,27,28,29,30,31,32,33,34,35,36,37,38,39,40,41,42,43,44,45,46,47,48]),(50,some [0,1,2,3,4,5,6,7,8,9,10,11,12,13,14,15,16,17,18,19,20,21,22,23,24,25,26,27,28,29,30,31,32,33,34,35,36,37,38,39,40,41,42,43,44,45,46,47,48,49])])]
theorem B11_ok:regsO B11 Tryz.f11.body=true:=by kernel_rfl
def T12:Tab:=[(5,ti5),(25,ti25),(27,ti27),(49,ti49),(76,ti76),(79,ti79)]
theorem T12_ok:TabOk Tryz.prog T12:=.cons tk5 <| .cons tk25 <| .cons tk27 <| .cons tk49 <| .cons tk76 <| .cons tk79 <| .nil mixed
def B12:SchT:=[]
theorem B12_ok:regsO B12 Tryz.f12.body=true:=by kernel_rfl
def T13:Tab:=[(4,ti4),(25,ti25),(60,ti60)]
theorem T13_ok:TabOk Tryz.prog T13:=.cons tk4 <| .cons tk25 <| .cons tk60 <| .nil mixed
def B13:SchT:=[]
theorem B13_ok:regsO B13 Tryz.f13.body=true:=by kernel_rfl
def T18:Tab:=[(2,ti2),(3,ti3),(36,ti36),(37,ti37),(38,ti38),(39,ti39),(41,ti41),(87,ti87),(89,ti89),(96,ti96),(99,ti99)]
theorem T18_ok:TabOk Tryz.prog T18:=.cons tk2 <| .cons tk3 <| .cons tk36 <| .cons tk37 <| .cons tk38 <| .cons tk39 <| .cons tk41 <| .cons tk87 <| .cons tk89 <| .cons tk96 <| .cons tk99 <| .nil mixed
def B18:SchT:=[]
theorem B18_ok:regsO B18 Tryz.f18.body=true:=by kernel_rfl
def T19:Tab:=[(35,ti35)]
theorem T19_ok:TabOk Tryz.prog T19:=.cons tk35 <| .nil mixed
def B19:SchT:=[]
theorem B19_ok:regsO B19 Tryz.f19.body=true:=by kernel_rfl
def T20:Tab:=[(3,ti3),(4,ti4),(5,ti5),(29,ti29),(30,ti30),(32,ti32)]
theorem T20_ok:TabOk Tryz.prog T20:=.cons tk3 <| .cons tk4 <| .cons tk5 <| .cons tk29 <| .cons tk30 <| .cons tk32 <| .nil mixed
def B20:SchT:=[(5,[(0,some []),(1,none),(2,none),(3,some [0,1,2]),(4,some [0,1,2,3]),(5,none),(6,some [0,1,2,3,4,5]),(7,some [0,1,2,3,4,5,6]),(8,some [0,1,2,3,4,5,6,7]),(9,some [0,1,2,3,4,5,6,7,8]),(10,some [0,1,2,3,4,5,6,7,8,9,13,14]),(13,some [0,1,2,3,4,5,6,7,8,9,10,11,12]),(11,some [0,1,2,3,4,5,6,7,8,9,10,13,14]),(14,some [0,1,2,3,4,5,6,7,8,9,10,11,12,13]),(12,none),(15,none),(16,some [0,1,2,3,4,5,6,7,8,9,10,11,12,13,14,15]),(17,none),(18,some [0,1,2,3,4,5,6,7,8,9,10,11,12,13,14,15,16,17]),(19,some [0,1,2,3,4,5,6,7,8,9,10,11,12,13,14,15,16,17,18]),(20,some [0,1,2,3,4,5,6,7,8,9,10,11,12,13,14,15,16,17,18,19])])]
theorem B20_ok:regsO B20 Tryz.f20.body=true:=by kernel_rfl
def T21:Tab:=[(5,ti5),(30,ti30)]
theorem T21_ok:TabOk Tryz.prog T21:=.cons tk5 <| .cons tk30 <| .nil mixed
def B21:SchT:=[]
theorem B21_ok:regsO B21 Tryz.f21.body=true:=by kernel_rfl
theorem F21_ok:FOk Tryz.prog 21 (FI.of Tryz.f21 T21 B21):=FOk.of Tryz.func21 rfl T21_ok B21_ok Tryz.call21
def T22:Tab:=[(2,ti2),(3,ti3),(36,ti36),(37,ti37),(38,ti38),(39,ti39),(41,ti41),(87,ti87),(89,ti89),(96,ti96),(99,ti99)]
theorem T22_ok:TabOk Tryz.prog T22:=.cons tk2 <| .cons tk3 <| .cons tk36 <| .cons tk37 <| .cons tk38 <| .cons tk39 <| .cons tk41 <| .cons tk87 <| .cons tk89 <| .cons tk96 <| .cons tk99 <| .nil mixed
def B22:SchT:=[(1,[(0,some [3,4,6,7,9,10]),(3,some [0,1,2,6,7,9,10]),(6,some [0,1,2,3,4,5,9,10]),(9,some [0,1,2,3,4,5,6,7,8]),(1,some [0,3,4,6,7,9,10]),(4,some [0,1,2,3,6,7,9,10]),(7,some [0,1,2,3,4,5,6,9,10]),(10,some [0,1,2,3,4,5,6,7,8,9]),(2,none),(12,some [0,1,2,3,4,5,6,7,8,9,10,11]),(5,none),(8,none),(11,none),(13,none),(14,some [0,1,2,3,4,5,6,7,8,9,10,11,12,13]),(15,none),(16,some [0,1,2,3,4,5,6,7,8,9,10,11,12,13,14,15]),(17,none),(18,some [0,1,2,3,4,5,6,7,8,9,10,11,12,13,14,15,16,17]),(19,none)]),(5,[(0,some [2,3,4,5,6,7,8,9,10]),(2,some [0,1,3,4,5,6,7,8,9,10]),(3,some [0,1,2,5]),(5,some [0,1,2,3,4]),(1,some [0,2,3,4,5,6,7,8,9,10]),(4,none),(6,some [0,1,2,3,4,5]),(7,some [0,1,2,3,4,5,6]),(8,some [0,1,2,3,4,5,6,7]),(9,none),(10,none),(11,some [0,1,2,3,4,5,6,7,8,9,10]),(12,some [0,1,2,3,4,5,6,7,8,9,10,11]),(13,some [0,1,2,3,4,5,6,7,8,9,10,11,12]),(14,none)])]
theorem B22_ok:regsO B22 Tryz.f22.body=true:=by kernel_rfl
theorem F22_ok:FOk Tryz.prog 22 (FI.of Tryz.f22 T22 B22):=FOk.of Tryz.func22 rfl T22_ok B22_ok Tryz.call22
def T23:Tab:=[(5,ti5),(29,ti29),(30,ti30),(32,ti32)]
theorem T23_ok:TabOk Tryz.prog T23:=.cons tk5 <| .cons tk29 <| .cons tk30 <| .cons tk32 <| .nil mixed
def B23:SchT:=[]
theorem B23_ok:regsO B23 Tryz.f23.body=true:=by kernel_rfl
def T24:Tab:=[(2,ti2),(3,ti3),(5,ti5),(29,ti29),(36,ti36),(37,ti37),(38,ti38),(39,ti39),(41,ti41),(89,ti89),(96,ti96),(99,ti99),(103,ti103)]
theorem T24_ok:TabOk Tryz.prog T24:=.cons tk2 <| .cons tk3 <| .cons tk5 <| .cons tk29 <| .cons tk36 <| .cons tk37 <| .cons tk38 <| .cons tk39 <| .cons tk41 <| .cons tk89 <| .cons tk96 <| .cons tk99 <| .cons tk103 <| .nil mixed
def B24:SchT:=[]
theorem B24_ok:regsO B24 Tryz.f24.body=true:=by kernel_rfl
def T25:Tab:=[(3,ti3),(4,ti4),(5,ti5),(29,ti29),(30,ti30),(32,ti32),(108,ti108)]
theorem T25_ok:TabOk Tryz.prog T25:=.cons tk3 <| .cons tk4 <| .cons tk5 <| .cons tk29 <| .cons tk30 <| .cons tk32 <| .cons tk108 <| .nil mixed
def B25:SchT:=[]
theorem B25_ok:regsO B25 Tryz.f25.body=true:=by kernel_rfl
def T26:Tab:=[(3,ti3),(27,ti27),(41,ti41),(49,ti49)]
theorem T26_ok:TabOk Tryz.prog T26:=.cons tk3 <| .cons tk27 <| .cons tk41 <| .cons tk49 <| .nil mixed
def B26:SchT:=[]
theorem B26_ok:regsO B26 Tryz.f26.body=true:=by kernel_rfl
theorem F26_ok:FOk Tryz.prog 26 (FI.of Tryz.f26 T26 B26):=FOk.of Tryz.func26 rfl T26_ok B26_ok Tryz.call26
def T27:Tab:=[(2,ti2),(3,ti3),(4,ti4),(5,ti5),(29,ti29),(36,ti36),(37,ti37),(38,ti38),(39,ti39),(41,ti41),(87,ti87),(89,ti89),(96,ti96),(99,ti99)]
theorem T27_ok:TabOk Tryz.prog T27:=.cons tk2 <| .cons tk3 <| .cons tk4 <| .cons tk5 <| .cons tk29 <| .cons tk36 <| .cons tk37 <| .cons tk38 <| .cons tk39 <| .cons tk41 <| .cons tk87 <| .cons tk89 <| .cons tk96 <| .cons tk99 <| .nil mixed
def B27:SchT:=[(6,[(0,some [2,6,7,8,9,10,11]),(2,some [0,1,6,7,8,9,10,11]),(6,some [0,1,2,3,4,5,8]),(8,some [0,1,2,3,4,5,6,7]),(1,some [0,2,6,7,8,9,10,11]),(3,some [0,1,2,6,7,8,9,10,11]),(4,some [0,1,2,3,6,7,8,9,10,11]),(5,some [0,1,2,3,4,6,7,8,9,10,11]),(7,none),(9,some [0,1,2,3,4,5,6,7,8]),(10,some [0,1,2,3,4,5,6,7,8,9]),(11,none),(12,some [0,1,2,3,4,5,6,7,8,9,10,11]),(13,some [0,1,2,3,4,5,6,7,8,9,10,11,12]),(14,some [0,1,2,3,4,5,6,7,8,9,10,11,12,13,16,20,21,22,23,24,25]),(16,some [0,1,2,3,4,5,6,7,8,9,10,11,12,13,14,15,20,21,22,23,24,25]),(20,some [0,1,2,3,4,5,6,7,8,9,10,11,12,13,14,15,16,17,18,19,22]),(22,some [0,1,2,3,4,5,6,7,8,9,10,11,12,13,14,15,16,17,18,19,20,21]),(15,some [0,1,2,3,4,5,6,7,8,9,10,11,12,13,14,16,20,21,22,23,24,25]),(17,some [0,1,2,3,4,5,6,7,8,9,10,11,12,13,14,15,16,20,21,22,23,24,25]),(18,some [0,1,2,3,4,5,6,7,8,9,10,11,12,13,14,15,16,17,20,21,22,23,24,25]),(19,some [0,1,2,3,4,5,6,7,8,9,10,11,12,13,14,15,16,17,18,20,21,22,23,24,25]),(21,none),(23,some [0,1,2,3,4,5,6,7,8,9,10,11,12,13,14,15,16,17,18,19,20,21,22]),(24,some [0,1,2,3,4,5,6,7,8,9,10,11,12,13,14,15,16,17,18,19,20,21,22,23]),(25,none),(26,some [0,1,2,3,4,5,6,7,8,9,10,11,12,13,14,15,16,17,18,19,20,21,22,23,24,25]),(27,some [0,1,2,3,4,5,6,7,8,9,10,11,12,13,14,15,16,17,18,19,20,21,22,23,24,25,26]),(28,some [0,1,2,3,4,5,6,7,8,9,10,11,12,13,14,15,16,17,18,19,20,21,22,23,24,25,26,27]),(29,some [0,1,2,3,4,5,6,7,8,9,10,11,12,13,14,15,16,17,18,19,20,21,22,23,24,25,26,27,28,31,35,36,37,38,39,40]),(31,some [0,1,2,3,4,5,6,7,8,9,10,11,12,13,14,15,16,17,18,19,20,21,22,23,24,25,26,27,28,29,30,35,36,37,38,39,40]),(35,some [0,1,2,3,4,5,6,7,8,9,10,11,12,13,14,15,16,17,18,19,20,21,22,23,24,25,26,27,28,29,30,31,32,33,34,37]),(37,some [0,1,2,3,4,5,6,7,8,9,10,11,12,13,14,15,16,17,18,19,20,21,22,23,24,25,26,27,28,29,30,31,32,33,34,35,36]),(30,some [0,1,2,3,4,5,6,7,8,9,10,11,12,13,14,15,16,17,18,19,20,21,22,23,24,25,26,27,28,29,31,35,36,37,38,39,40]),(32,some [0,1,2,3,4,5,6,7,8,9,10,11,12,13,14,15,16,17,18,19,20,21,22,23,24,25,26,27,28,29,30,31,35,36,37,38,39,40]),(33,some [0,1,2,3,4,5,6,7,8,9,10,11,12,13,14,15,16,17,18,19,20,21,22,23,24,25,26,27,28,29,30,31,32,35,36,37,38,39,40]),(34,some [0,1,2,3,4,5,6,7,8,9,10,11,12,13,14,15,16,17,18,19,20,21,22,23,24,25,26,27,28,29,30,31,32,33,35,36,37,38,39,40]),(36,none),(38,some [0,1,2,3,4,5,6,7,8,9,10,11,12,13,14,15,16,17,18,19,20,21,22,23,24,25,26,27,28,29,30,31,32,33,34,35,36,37]),(39,some [0,1,2,3,4,5,6,7,8,9,10,11,12,13,14,15,16,17,18,19,20,21,22,23,24,25,26,27,28,29,30,31,32,33,34,35,36,37,38]),(40,none),(41,none),(42,some [0,1,2,3,4,5,6,7,8,9,10,11,12,13,14,15,16,17,18,19,20,21,22,23,24,25,26,27,28,29,30,31,32,33,34,35,36,37,38,39,40,41]),(43,some [0,1,2,3,4,5,6,7,8,9,10,11,12,13,14,15,16,17,18,19,20,21,22,23,24,25,26,27,28,29,30,31,32,33,34,35,36,37,38,39,40,41,42])]),(12,[(0,some [2,5,6,7,8,9]),(2,some [0,1,5,6,7,8,9]),(5,some [0,1,2,3,4,7]),(7,some [0,1,2,3,4,5,6]),(1,some [0,2,5,6,7,8,9]),(3,some [0,1,2,5,6,7,8,9]),(4,some [0,1,2,3,5,6,7,8,9]),(6,none),(8,some [0,1,2,3,4,5,6,7]),(9,none),(10,some [0,1,2,3,4,5,6,7,8,9])]),(18,[(0,some [2,5,6,7,8,9]),(2,some [0,1,5,6,7,8,9]),(5,some [0,1,2,3,4,7]),(7,some [0,1,2,3,4,5,6]),(1,some [0,2,5,6,7,8,9]),(3,some [0,1,2,5,6,7,8,9]),(4,some [0,1,2,3,5,6,7,8,9]),(6,none),(8,some [0,1,2,3,4,5,6,7]),(9,none),(10,some [0,1,2,3,4,5,6,7,8,9])])]
theorem B27_ok:regsO B27 Tryz.f27.body=true:=by kernel_rfl
def T28:Tab:=[(3,ti3),(4,ti4),(27,ti27),(49,ti49),(76,ti76)]
theorem T28_ok:TabOk Tryz.prog T28:=.cons tk3 <| .cons tk4 <| .cons tk27 <| .cons tk49 <| .cons tk76 <| .nil mixed
def B28:SchT:=[]
theorem B28_ok:regsO B28 Tryz.f28.body=true:=by kernel_rfl
theorem F28_ok:FOk Tryz.prog 28 (FI.of Tryz.f28 T28 B28):=FOk.of Tryz.func28 rfl T28_ok B28_ok Tryz.call28
def T29:Tab:=[(5,ti5),(49,ti49)]
theorem T29_ok:TabOk Tryz.prog T29:=.cons tk5 <| .cons tk49 <| .nil mixed
def B29:SchT:=[]
theorem B29_ok:regsO B29 Tryz.f29.body=true:=by kernel_rfl
def T31:Tab:=[(35,ti35),(49,ti49)]
theorem T31_ok:TabOk Tryz.prog T31:=.cons tk35 <| .cons tk49 <| .nil mixed
def B31:SchT:=[]
theorem B31_ok:regsO B31 Tryz.f31.body=true:=by kernel_rfl
def T32:Tab:=[(3,ti3),(5,ti5),(29,ti29),(33,ti33),(35,ti35),(129,ti129)]
theorem T32_ok:TabOk Tryz.prog T32:=.cons tk3 <| .cons tk5 <| .cons tk29 <| .cons tk33 <| .cons tk35 <| .cons tk129 <| .nil mixed
def B32:SchT:=[(1,[(0,some [2,3,5,6,7,8,10,11,12,13]),(2,some [0,1,5,6,7,8,10,11,12,13]),(5,some [0,1,2,3,4,7,8,10,11,12,13]),(7,some [0,1,2,3,4,5,6,10,11,12,13]),(10,some [0,1,2,3,4,5,6,7,8,9,12,13]),(12,some [0,1,2,3,4,5,6,7,8,9,10,11]),(1,some [0,2,3,5,6,7,8,10,11,12,13]),(3,some [0,1,2,5,6,7,8,10,11,12,13]),(6,some [0,1,2,3,4,5,7,8,10,11,12,13]),(8,some [0,1,2,3,4,5,6,7,10,11,12,13]),(11,some [0,1,2,3,4,5,6,7,8,9,10,12,13]),(13,some [0,1,2,3,4,5,6,7,8,9,10,11,12]),(4,none),(9,none),(14,none),(15,none),(16,none),(17,some [0,1,2,3,4,5,6,7,8,9,10,11,12,13,14,15,16])])]
theorem B32_ok:regsO B32 Tryz.f32.body=true:=by kernel_rfl
def T40:Tab:=[(3,ti3),(5,ti5),(30,ti30)]
theorem T40_ok:TabOk Tryz.prog T40:=.cons tk3 <| .cons tk5 <| .cons tk30 <| .nil mixed
def B40:SchT:=[]
theorem B40_ok:regsO B40 Tryz.f40.body=true:=by kernel_rfl
def T41:Tab:=[(29,ti29),(32,ti32)]
theorem T41_ok:TabOk Tryz.prog T41:=.cons tk29 <| .cons tk32 <| .nil mixed
def B41:SchT:=[]
theorem B41_ok:regsO B41 Tryz.f41.body=true:=by kernel_rfl
def T42:Tab:=[(3,ti3),(29,ti29)]
theorem T42_ok:TabOk Tryz.prog T42:=.cons tk3 <| .cons tk29 <| .nil mixed
def B42:SchT:=[]
theorem B42_ok:regsO B42 Tryz.f42.body=true:=by kernel_rfl
def T43:Tab:=[(3,ti3),(5,ti5),(29,ti29),(30,ti30)]
theorem T43_ok:TabOk Tryz.prog T43:=.cons tk3 <| .cons tk5 <| .cons tk29 <| .cons tk30 <| .nil mixed
def B43:SchT:=[]
theorem B43_ok:regsO B43 Tryz.f43.body=true:=by kernel_rfl
def T44:Tab:=[(2,ti2),(36,ti36)]
theorem T44_ok:TabOk Tryz.prog T44:=.cons tk2 <| .cons tk36 <| .nil mixed
def B44:SchT:=[]
theorem B44_ok:regsO B44 Tryz.f44.body=true:=by kernel_rfl
theorem F44_ok:FOk Tryz.prog 44 (FI.of Tryz.f44 T44 B44):=FOk.of Tryz.func44 rfl T44_ok B44_ok Tryz.call44
def T45:Tab:=[(38,ti38),(96,ti96)]
theorem T45_ok:TabOk Tryz.prog T45:=.cons tk38 <| .cons tk96 <| .nil mixed
def B45:SchT:=[]
theorem B45_ok:regsO B45 Tryz.f45.body=true:=by kernel_rfl
theorem F45_ok:FOk Tryz.prog 45 (FI.of Tryz.f45 T45 B45):=FOk.of Tryz.func45 rfl T45_ok B45_ok Tryz.call45
def T46:Tab:=[(39,ti39),(99,ti99)]
theorem T46_ok:TabOk Tryz.prog T46:=.cons tk39 <| .cons tk99 <| .nil mixed
def B46:SchT:=[]
theorem B46_ok:regsO B46 Tryz.f46.body=true:=by kernel_rfl
theorem F46_ok:FOk Tryz.prog 46 (FI.of Tryz.f46 T46 B46):=FOk.of Tryz.func46 rfl T46_ok B46_ok Tryz.call46
def T47:Tab:=[(37,ti37),(89,ti89)]
theorem T47_ok:TabOk Tryz.prog T47:=.cons tk37 <| .cons tk89 <| .nil mixed
def B47:SchT:=[]
theorem B47_ok:regsO B47 Tryz.f47.body=true:=by kernel_rfl
theorem F47_ok:FOk Tryz.prog 47 (FI.of Tryz.f47 T47 B47):=FOk.of Tryz.func47 rfl T47_ok B47_ok Tryz.call47
def T48:Tab:=[(3,ti3),(5,ti5),(30,ti30)]
theorem T48_ok:TabOk Tryz.prog T48:=.cons tk3 <| .cons tk5 <| .cons tk30 <| .nil mixed
def B48:SchT:=[(6,[(0,some [1,4,5,6,7]),(1,some [0,4,5,6,7]),(2,some [0,1,4,5,6,7]),(4,some [0,1,2,3,5]),(5,some [0,1,2,3,4]),(6,some [0,1,2,3,4,5]),(3,some [0,1,2,4,5,6,7]),(7,none),(8,some [0,1,2,3,4,5,6,7])])]
theorem B48_ok:regsO B48 Tryz.f48.body=true:=by kernel_rfl
def T49:Tab:=[(5,ti5),(29,ti29),(87,ti87),(89,ti89)]
theorem T49_ok:TabOk Tryz.prog T49:=.cons tk5 <| .cons tk29 <| .cons tk87 <| .cons tk89 <| .nil mixed
def B49:SchT:=[]
theorem B49_ok:regsO B49 Tryz.f49.body=true:=by kernel_rfl
def T50:Tab:=[(2,ti2),(3,ti3),(29,ti29),(36,ti36),(85,ti85),(87,ti87)]
theorem T50_ok:TabOk Tryz.prog T50:=.cons tk2 <| .cons tk3 <| .cons tk29 <| .cons tk36 <| .cons tk85 <| .cons tk87 <| .nil mixed
def B50:SchT:=[]
theorem B50_ok:regsO B50 Tryz.f50.body=true:=by kernel_rfl
def T51:Tab:=[(2,ti2),(3,ti3),(36,ti36)]
theorem T51_ok:TabOk Tryz.prog T51:=.cons tk2 <| .cons tk3 <| .cons tk36 <| .nil mixed
def B51:SchT:=[(6,[(0,some [1,4,5,6,7]),(1,some [0,4,5,6,7]),(2,some [0,1,4,5,6,7]),(4,some [0,1,2,3,5]),(5,some [0,1,2,3,4]),(6,some [0,1,2,3,4,5]),(3,some [0,1,2,4,5,6,7]),(7,none),(8,some [0,1,2,3,4,5,6,7])])]
theorem B51_ok:regsO B51 Tryz.f51.body=true:=by kernel_rfl
def T52:Tab:=[(3,ti3),(4,ti4),(37,ti37),(89,ti89)]
theorem T52_ok:TabOk Tryz.prog T52:=.cons tk3 <| .cons tk4 <| .cons tk37 <| .cons tk89 <| .nil mixed
def B52:SchT:=[]
theorem B52_ok:regsO B52 Tryz.f52.body=true:=by kernel_rfl
def T53:Tab:=[(3,ti3),(38,ti38),(96,ti96)]
theorem T53_ok:TabOk Tryz.prog T53:=.cons tk3 <| .cons tk38 <| .cons tk96 <| .nil mixed
def B53:SchT:=[(6,[(0,some [1,4,5,6,7]),(1,some [0,4,5,6,7]),(2,some [0,1,4,5,6,7]),(4,some [0,1,2,3,5]),(5,some [0,1,2,3,4]),(6,some [0,1,2,3,4,5]),(3,some [0,1,2,4,5,6,7]),(7,none),(8,some [0,1,2,3,4,5,6,7])])]
theorem B53_ok:regsO B53 Tryz.f53.body=true:=by kernel_rfl
def T54:Tab:=[(3,ti3),(39,ti39),(99,ti99)]
theorem T54_ok:TabOk Tryz.prog T54:=.cons tk3 <| .cons tk39 <| .cons tk99 <| .nil mixed
def B54:SchT:=[(6,[(0,some [1,4,5,6,7]),(1,some [0,4,5,6,7]),(2,some [0,1,4,5,6,7]),(4,some [0,1,2,3,5]),(5,some [0,1,2,3,4]),(6,some [0,1,2,3,4,5]),(3,some [0,1,2,4,5,6,7]),(7,none),(8,some [0,1,2,3,4,5,6,7])])]
theorem B54_ok:regsO B54 Tryz.f54.body=true:=by kernel_rfl
def T55:Tab:=[(5,ti5),(30,ti30),(32,ti32),(108,ti108)]
theorem T55_ok:TabOk Tryz.prog T55:=.cons tk5 <| .cons tk30 <| .cons tk32 <| .cons tk108 <| .nil mixed
def B55:SchT:=[]
theorem B55_ok:regsO B55 Tryz.f55.body=true:=by kernel_rfl
def T56:Tab:=[(27,ti27),(49,ti49)]
theorem T56_ok:TabOk Tryz.prog T56:=.cons tk27 <| .cons tk49 <| .nil mixed
def B56:SchT:=[]
theorem B56_ok:regsO B56 Tryz.f56.body=true:=by kernel_rfl
theorem F56_ok:FOk Tryz.prog 56 (FI.of Tryz.f56 T56 B56):=FOk.of Tryz.func56 rfl T56_ok B56_ok Tryz.call56
def T57:Tab:=[(2,ti2),(3,ti3),(29,ti29),(36,ti36),(85,ti85),(87,ti87)]
theorem T57_ok:TabOk Tryz.prog T57:=.cons tk2 <| .cons tk3 <| .cons tk29 <| .cons tk36 <| .cons tk85 <| .cons tk87 <| .nil mixed
def B57:SchT:=[(6,[(0,some [2,5,6,7,8,9]),(2,some [0,1,5,6,7,8,9]),(5,some [0,1,2,3,4,7]),(7,some [0,1,2,3,4,5,6]),(1,some [0,2,5,6,7,8,9]),(3,some [0,1,2,5,6,7,8,9]),(4,some [0,1,2,3,5,6,7,8,9]),(6,none),(8,some [0,1,2,3,4,5,6,7]),(9,none),(10,some [0,1,2,3,4,5,6,7,8,9])])]
theorem B57_ok:regsO B57 Tryz.f57.body=true:=by kernel_rfl
def T58:Tab:=[(3,ti3),(27,ti27),(49,ti49)]
theorem T58_ok:TabOk Tryz.prog T58:=.cons tk3 <| .cons tk27 <| .cons tk49 <| .nil mixed
def B58:SchT:=[]
theorem B58_ok:regsO B58 Tryz.f58.body=true:=by kernel_rfl
theorem F58_ok:FOk Tryz.prog 58 (FI.of Tryz.f58 T58 B58):=FOk.of Tryz.func58 rfl T58_ok B58_ok Tryz.call58
def T60:Tab:=[(29,ti29),(33,ti33),(113,ti113)]
theorem T60_ok:TabOk Tryz.prog T60:=.cons tk29 <| .cons tk33 <| .cons tk113 <| .nil mixed
def B60:SchT:=[]
theorem B60_ok:regsO B60 Tryz.f60.body=true:=by kernel_rfl
theorem F60_ok:FOk Tryz.prog 60 (FI.of Tryz.f60 T60 B60):=FOk.of Tryz.func60 rfl T60_ok B60_ok Tryz.call60
def T61:Tab:=[(3,ti3),(129,ti129)]
theorem T61_ok:TabOk Tryz.prog T61:=.cons tk3 <| .cons tk129 <| .nil mixed
def B61:SchT:=[]
theorem B61_ok:regsO B61 Tryz.f61.body=true:=by kernel_rfl
theorem F61_ok:FOk Tryz.prog 61 (FI.of Tryz.f61 T61 B61):=FOk.of Tryz.func61 rfl T61_ok B61_ok Tryz.call61
def T62:Tab:=[(29,ti29)]
theorem T62_ok:TabOk Tryz.prog T62:=.cons tk29 <| .nil mixed
def B62:SchT:=[]
theorem B62_ok:regsO B62 Tryz.f62.body=true:=by kernel_rfl
theorem F62_ok:FOk Tryz.prog 62 (FI.of Tryz.f62 T62 B62):=FOk.of Tryz.func62 rfl T62_ok B62_ok Tryz.call62
def T63:Tab:=[(5,ti5)]
theorem T63_ok:TabOk Tryz.prog T63:=.cons tk5 <| .nil mixed
def B63:SchT:=[]
theorem B63_ok:regsO B63 Tryz.f63.body=true:=by kernel_rfl
theorem F63_ok:FOk Tryz.prog 63 (FI.of Tryz.f63 T63 B63):=FOk.of Tryz.func63 rfl T63_ok B63_ok Tryz.call63
def T64:Tab:=[(33,ti33)]
theorem T64_ok:TabOk Tryz.prog T64:=.cons tk33 <| .nil mixed
def B64:SchT:=[]
theorem B64_ok:regsO B64 Tryz.f64.body=true:=by kernel_rfl
def T68:Tab:=[(3,ti3),(5,ti5),(30,ti30),(135,ti135),(148,ti148)]
theorem T68_ok:TabOk Tryz.prog T68:=.cons tk3 <| .cons tk5 <| .cons tk30 <| .cons tk135 <| .cons tk148 <| .nil mixed
def B68:SchT:=[]
theorem B68_ok:regsO B68 Tryz.f68.body=true:=by kernel_rfl
def T77:Tab:=[(3,ti3),(5,ti5),(9,ti9),(33,ti33)]
theorem T77_ok:TabOk Tryz.prog T77:=.cons tk3 <| .cons tk5 <| .cons tk9 <| .cons tk33 <| .nil mixed
def B77:SchT:=[]
theorem B77_ok:regsO B77 Tryz.f77.body=true:=by kernel_rfl
theorem F77_ok:FOk Tryz.prog 77 (FI.of Tryz.f77 T77 B77):=FOk.of Tryz.func77 rfl T77_ok B77_ok Tryz.call77
def T78:Tab:=[(3,ti3),(5,ti5),(9,ti9),(29,ti29)]
theorem T78_ok:TabOk Tryz.prog T78:=.cons tk3 <| .cons tk5 <| .cons tk9 <| .cons tk29 <| .nil mixed
def B78:SchT:=[]
theorem B78_ok:regsO B78 Tryz.f78.body=true:=by kernel_rfl
theorem F78_ok:FOk Tryz.prog 78 (FI.of Tryz.f78 T78 B78):=FOk.of Tryz.func78 rfl T78_ok B78_ok Tryz.call78
def T79:Tab:=[(29,ti29)]
theorem T79_ok:TabOk Tryz.prog T79:=.cons tk29 <| .nil mixed
def B79:SchT:=[]
theorem B79_ok:regsO B79 Tryz.f79.body=true:=by kernel_rfl
theorem F79_ok:FOk Tryz.prog 79 (FI.of Tryz.f79 T79 B79):=FOk.of Tryz.func79 rfl T79_ok B79_ok Tryz.call79
def T80:Tab:=[(5,ti5)]
theorem T80_ok:TabOk Tryz.prog T80:=.cons tk5 <| .nil mixed
def B80:SchT:=[]
theorem B80_ok:regsO B80 Tryz.f80.body=true:=by kernel_rfl
theorem F80_ok:FOk Tryz.prog 80 (FI.of Tryz.f80 T80 B80):=FOk.of Tryz.func80 rfl T80_ok B80_ok Tryz.call80
def T81:Tab:=[(33,ti33)]
theorem T81_ok:TabOk Tryz.prog T81:=.cons tk33 <| .nil mixed
def B81:SchT:=[]
theorem B81_ok:regsO B81 Tryz.f81.body=true:=by kernel_rfl
def T88:Tab:=[(3,ti3),(4,ti4),(5,ti5),(29,ti29),(30,ti30),(135,ti135),(148,ti148),(152,ti152),(153,ti153)]
theorem T88_ok:TabOk Tryz.prog T88:=.cons tk3 <| .cons tk4 <| .cons tk5 <| .cons tk29 <| .cons tk30 <| .cons tk135 <| .cons tk148 <| .cons tk152 <| .cons tk153 <| .nil mixed
def B88:SchT:=[(9,[(1,some [0,2,4,5]),(2,some [0,1,4,5]),(3,some [0,1,2,4,5]),(0,some [1,2,3,4,5,6]),(4,none),(5,some [0,1,2,3,4]),(6,some [0,1,2,3,4,5]),(7,some [0,1,2,3,4,5,6]),(8,some [0,1,2,3,4,5,6,7]),(9,none),(10,some [0,1,2,3,4,5,6,7,8,9])])]
theorem B88_ok:regsO B88 Tryz.f88.body=true:=by kernel_rfl
def T89:Tab:=[(3,ti3),(5,ti5),(30,ti30),(135,ti135),(148,ti148),(155,ti155)]
theorem T89_ok:TabOk Tryz.prog T89:=.cons tk3 <| .cons tk5 <| .cons tk30 <| .cons tk135 <| .cons tk148 <| .cons tk155 <| .nil mixed
def B89:SchT:=[]
theorem B89_ok:regsO B89 Tryz.f89.body=true:=by kernel_rfl
theorem F89_ok:FOk Tryz.prog 89 (FI.of Tryz.f89 T89 B89):=FOk.of Tryz.func89 rfl T89_ok B89_ok Tryz.call89
def T90:Tab:=[(3,ti3),(5,ti5),(30,ti30),(113,ti113)]
theorem T90_ok:TabOk Tryz.prog T90:=.cons tk3 <| .cons tk5 <| .cons tk30 <| .cons tk113 <| .nil mixed
def B90:SchT:=[]
theorem B90_ok:regsO B90 Tryz.f90.body=true:=by kernel_rfl
theorem F90_ok:FOk Tryz.prog 90 (FI.of Tryz.f90 T90 B90):=FOk.of Tryz.func90 rfl T90_ok B90_ok Tryz.call90
def T92:Tab:=[(3,ti3),(113,ti113)]
theorem T92_ok:TabOk Tryz.prog T92:=.cons tk3 <| .cons tk113 <| .nil mixed
def B92:SchT:=[]
theorem B92_ok:regsO B92 Tryz.f92.body=true:=by kernel_rfl
theorem F92_ok:FOk Tryz.prog 92 (FI.of Tryz.f92 T92 B92):=FOk.of Tryz.func92 rfl T92_ok B92_ok Tryz.call92
def T93:Tab:=[(140,ti140)]
theorem T93_ok:TabOk Tryz.prog T93:=.cons tk140 <| .nil mixed
def B93:SchT:=[(1,[(0,some [3,4,5,6]),(1,some [0,3,4,5,6]),(3,some [0,1,2]),(4,some [0,1,2,3]),(2,some [0,1,3,4,5,6]),(5,none),(6,some [0,1,2,3,4,5]),(7,some [0,1,2,3,4,5,6]),(8,some [0,1,2,3,4,5,6,7]),(9,none)]),(2,[(0,some [3,4,5,6]),(1,some [0,3,4,5,6]),(3,some [0,1,2]),(4,some [0,1,2,3]),(2,some [0,1,3,4,5,6]),(5,none),(6,some [0,1,2,3,4,5]),(7,some [0,1,2,3,4,5,6]),(8,some [0,1,2,3,4,5,6,7]),(9,none)]),(3,[(0,some [3,4,5,6]),(1,some [0,3,4,5,6]),(3,some [0,1,2]),(4,some [0,1,2,3]),(2,some [0,1,3,4,5,6]),(5,none),(6,some [0,1,2,3,4,5]),(7,some [0,1,2,3,4,5,6]),(8,some [0,1,2,3,4,5,6,7]),(9,none)])]
theorem B93_ok:regsO B93 Tryz.f93.body=true:=by kernel_rfl
theorem F93_ok:FOk Tryz.prog 93 (FI.of Tryz.f93 T93 B93):=FOk.of Tryz.func93 rfl T93_ok B93_ok Tryz.call93
def T100:Tab:=[(5,ti5),(29,ti29),(30,ti30)]
theorem T100_ok:TabOk Tryz.prog T100:=.cons tk5 <| .cons tk29 <| .cons tk30 <| .nil mixed
def B100:SchT:=[]
theorem B100_ok:regsO B100 Tryz.f100.body=true:=by kernel_rfl
theorem F100_ok:FOk Tryz.prog 100 (FI.of Tryz.f100 T100 B100):=FOk.of Tryz.func100 rfl T100_ok B100_ok Tryz.call100
def T102:Tab:=[(29,ti29),(135,ti135),(148,ti148)]
theorem T102_ok:TabOk Tryz.prog T102:=.cons tk29 <| .cons tk135 <| .cons tk148 <| .nil mixed
def B102:SchT:=[(1,[(1,some [0,5]),(0,some [1,5]),(2,some [0,1,5]),(3,some [0,1,2,5]),(4,some [0,1,2,3,5]),(5,none),(6,some [0,1,2,3,4,5]),(7,some [0,1,2,3,4,5,6])])]
theorem B102_ok:regsO B102 Tryz.f102.body=true:=by kernel_rfl
def T103:Tab:=[(3,ti3),(5,ti5),(30,ti30)]
theorem T103_ok:TabOk Tryz.prog T103:=.cons tk3 <| .cons tk5 <| .cons tk30 <| .nil mixed
def B103:SchT:=[(6,[(0,some [1,4,5,6,7,8]),(1,some [0,4,5,6,7,8]),(2,some [0,1,4,5,6,7,8]),(4,some [0,1,2,3,5,6]),(5,some [0,1,2,3,4]),(6,some [0,1,2,3,4,5]),(7,some [0,1,2,3,4,5,6]),(3,some [0,1,2,4,5,6,7,8]),(8,none),(9,some [0,1,2,3,4,5,6,7,8])]),(11,[(0,some [1,4,5,6,7,8]),(1,some [0,4,5,6,7,8]),(2,some [0,1,4,5,6,7,8]),(4,some [0,1,2,3,5,6]),(5,some [0,1,2,3,4]),(6,some [0,1,2,3,4,5]),(7,some [0,1,2,3,4,5,6]),(3,some [0,1,2,4,5,6,7,8]),(8,none),(9,some [0,1,2,3,4,5,6,7,8])])]
theorem B103_ok:regsO B103 Tryz.f103.body=true:=by kernel_rfl
theorem F103_ok:FOk Tryz.prog 103 (FI.of Tryz.f103 T103 B103):=FOk.of Tryz.func103 rfl T103_ok B103_ok Tryz.call103
def T104:Tab:=[(5,ti5),(29,ti29),(30,ti30)]
theorem T104_ok:TabOk Tryz.prog T104:=.cons tk5 <| .cons tk29 <| .cons tk30 <| .nil mixed
def B104:SchT:=[]
theorem B104_ok:regsO B104 Tryz.f104.body=true:=by kernel_rfl
theorem F104_ok:FOk Tryz.prog 104 (FI.of Tryz.f104 T104 B104):=FOk.of Tryz.func104 rfl T104_ok B104_ok Tryz.call104
def T105:Tab:=[(3,ti3),(113,ti113),(135,ti135),(148,ti148),(155,ti155)]
theorem T105_ok:TabOk Tryz.prog T105:=.cons tk3 <| .cons tk113 <| .cons tk135 <| .cons tk148 <| .cons tk155 <| .nil mixed
def B105:SchT:=[]
theorem B105_ok:regsO B105 Tryz.f105.body=true:=by kernel_rfl
theorem F105_ok:FOk Tryz.prog 105 (FI.of Tryz.f105 T105 B105):=FOk.of Tryz.func105 rfl T105_ok B105_ok Tryz.call105
def T106:Tab:=[(3,ti3),(5,ti5),(29,ti29),(129,ti129),(148,ti148)]
theorem T106_ok:TabOk Tryz.prog T106:=.cons tk3 <| .cons tk5 <| .cons tk29 <| .cons tk129 <| .cons tk148 <| .nil mixed
def B106:SchT:=[(1,[(0,some [2,3,5,6,7,8]),(2,some [0,1,5,6,7,8]),(5,some [0,1,2,3,4,7,8]),(7,some [0,1,2,3,4,5,6]),(1,some [0,2,3,5,6,7,8]),(3,some [0,1,2,5,6,7,8]),(6,some [0,1,2,3,4,5,7,8]),(8,some [0,1,2,3,4,5,6,7]),(4,none),(9,none),(10,none),(11,none),(12,some [0,1,2,3,4,5,6,7,8,9,10,11])])]
theorem B106_ok:regsO B106 Tryz.f106.body=true:=by kernel_rfl
theorem F106_ok:FOk Tryz.prog 106 (FI.of Tryz.f106 T106 B106):=FOk.of Tryz.func106 rfl T106_ok B106_ok Tryz.call106
def T107:Tab:=[(3,ti3),(4,ti4),(5,ti5),(30,ti30),(121,ti121)]
theorem T107_ok:TabOk Tryz.prog T107:=.cons tk3 <| .cons tk4 <| .cons tk5 <| .cons tk30 <| .cons tk121 <| .nil mixed
def B107:SchT:=[(17,[(0,some []),(1,some [0]),(2,some [0,1]),(3,some [0,1,2,4,5,8,9,10,11]),(4,some [0,1,2,3,8,9,10,11]),(5,some [0,1,2,3,4,8,9,10,11]),(6,some [0,1,2,3,4,5,8,9,10,11]),(8,some [0,1,2,3,4,5,6,7,9]),(9,some [0,1,2,3,4,5,6,7,8]),(10,some [0,1,2,3,4,5,6,7,8,9]),(7,some [0,1,2,3,4,5,6,8,9,10,11]),(11,none),(12,none),(13,some [0,1,2,3,4,5,6,7,8,9,10,11,12]),(14,some [0,1,2,3,4,5,6,7,8,9,10,11,12,13])])]
theorem B107_ok:regsO B107 Tryz.f107.body=true:=by kernel_rfl
theorem F107_ok:FOk Tryz.prog 107 (FI.of Tryz.f107 T107 B107):=FOk.of Tryz.func107 rfl T107_ok B107_ok Tryz.call107
def T111:Tab:=[(29,ti29)]
theorem T111_ok:TabOk Tryz.prog T111:=.cons tk29 <| .nil mixed
def B111:SchT:=[]
theorem B111_ok:regsO B111 Tryz.f111.body=true:=by kernel_rfl
theorem F111_ok:FOk Tryz.prog 111 (FI.of Tryz.f111 T111 B111):=FOk.of Tryz.func111 rfl T111_ok B111_ok Tryz.call111
def T112:Tab:=[(3,ti3),(5,ti5),(29,ti29),(30,ti30)]
theorem T112_ok:TabOk Tryz.prog T112:=.cons tk3 <| .cons tk5 <| .cons tk29 <| .cons tk30 <| .nil mixed
def B112:SchT:=[]
theorem B112_ok:regsO B112 Tryz.f112.body=true:=by kernel_rfl
theorem F112_ok:FOk Tryz.prog 112 (FI.of Tryz.f112 T112 B112):=FOk.of Tryz.func112 rfl T112_ok B112_ok Tryz.call112
def T113:Tab:=[(3,ti3),(4,ti4),(121,ti121),(135,ti135),(148,ti148),(155,ti155)]
theorem T113_ok:TabOk Tryz.prog T113:=.cons tk3 <| .cons tk4 <| .cons tk121 <| .cons tk135 <| .cons tk148 <| .cons tk155 <| .nil mixed
def B113:SchT:=[(17,[(0,some []),(1,some [0]),(2,some [0,1]),(3,some [0,1,2,4,5,6,7,8,9,10,11,12]),(4,some [0,1,2,3,5,6,9,10,11,12]),(5,some [0,1,2,3,4,9,10,11,12]),(6,some [0,1,2,3,4,5,9,10,11,12]),(7,some [0,1,2,3,4,5,6,9,10,11,12]),(9,some [0,1,2,3,4,5,6,7,8,10]),(10,some [0,1,2,3,4,5,6,7,8,9]),(11,some [0,1,2,3,4,5,6,7,8,9,10]),(8,some [0,1,2,3,4,5,6,7,9,10,11,12]),(12,none),(13,none),(14,some [0,1,2,3,4,5,6,7,8,9,10,11,12,13]),(15,some [0,1,2,3,4,5,6,7,8,9,10,11,12,13,14]),(16,some [0,1,2,3,4,5,6,7,8,9,10,11,12,13,14,15])])]
theorem B113_ok:regsO B113 Tryz.f113.body=true:=by kernel_rfl
theorem F113_ok:FOk Tryz.prog 113 (FI.of Tryz.f113 T113 B113):=FOk.of Tryz.func113 rfl T113_ok B113_ok Tryz.call113
def T114:Tab:=[(3,ti3),(5,ti5),(30,ti30)]
theorem T114_ok:TabOk Tryz.prog T114:=.cons tk3 <| .cons tk5 <| .cons tk30 <| .nil mixed
def B114:SchT:=[(4,[(0,some [1]),(1,some [0]),(2,some [0,1]),(3,some [0,1,2]),(4,some [0,1,2,3,5,8,9,10,11,12]),(5,some [0,1,2,3,4,8,9,10,11,12]),(6,some [0,1,2,3,4,5,8,9,10,11,12]),(8,some [0,1,2,3,4,5,6,7,9,10]),(9,some [0,1,2,3,4,5,6,7,8]),(10,some [0,1,2,3,4,5,6,7,8,9]),(11,some [0,1,2,3,4,5,6,7,8,9,10]),(7,some [0,1,2,3,4,5,6,8,9,10,11,12]),(12,none),(13,none),(14,some [0,1,2,3,4,5,6,7,8,9,10,11,12,13])]),(6,[(0,some [1,2,3,4,5,6,7,8,9,10,11,12,13]),(1,some [0,2,3,4,5,6,7,8,9,10,11,12,13]),(2,some [0,1,3,4,5,6,7,8,9,10,11,12,13,14,15]),(3,some [0,1,2,5,6,7,8,9,10,11,12,13,14,15]),(4,some [0,1,2,3,5,6,7,8,9,10,11,12,13,14,15]),(5,some [0,1,2,3,4,6,7,10,11,12,13]),(6,some [0,1,2,3,4,5,10,11,12,13]),(7,some [0,1,2,3,4,5,6,10,11,12,13]),(8,some [0,1,2,3,4,5,6,7,10,11,12,13]),(10,some [0,1,2,3,4,5,6,7,8,9,11]),(11,some [0,1,2,3,4,5,6,7,8,9,10]),(12,some [0,1,2,3,4,5,6,7,8,9,10,11]),(9,some [0,1,2,3,4,5,6,7,8,10,11,12,13]),(13,none),(14,some [0,1,2,3,4,5,6,7,8,9,10,11,12,13]),(15,none),(16,some [0,1,2,3,4,5,6,7,8,9,10,11,12,13,14,15]),(17,none)])]
theorem B114_ok:regsO B114 Tryz.f114.body=true:=by kernel_rfl
theorem F114_ok:FOk Tryz.prog 114 (FI.of Tryz.f114 T114 B114):=FOk.of Tryz.func114 rfl T114_ok B114_ok Tryz.call114
def T115:Tab:=[(3,ti3),(5,ti5),(30,ti30)]
theorem T115_ok:TabOk Tryz.prog T115:=.cons tk3 <| .cons tk5 <| .cons tk30 <| .nil mixed
def B115:SchT:=[(10,[(0,some [1,2,3,4,5,6,7,8,9,10,11,12,13,14,15]),(1,some [0,2,3,4,5,6,7,8,9,10,11,12,13,14,15]),(2,some [0,1,3,4,5,6,7,8,9,10,11,12,13,14,15,16,17]),(3,some [0,1,2,4,6,7,8,9,10,11,12,13,14,15,16,17]),(4,some [0,1,2,3,6,7,8,9,10,11,12,13,14,15,16,17]),(5,some [0,1,2,3,4,6,7,8,9,10,11,12,13,14,15,16,17]),(6,some [0,1,2,3,4,5,7,8,9,12,13,14,15]),(7,some [0,1,2,3,4,5,6,8,12,13,14,15]),(8,some [0,1,2,3,4,5,6,7,12,13,14,15]),(9,some [0,1,2,3,4,5,6,7,8,12,13,14,15]),(10,some [0,1,2,3,4,5,6,7,8,9,12,13,14,15]),(12,some [0,1,2,3,4,5,6,7,8,9,10,11,13]),(13,some [0,1,2,3,4,5,6,7,8,9,10,11,12]),(14,some [0,1,2,3,4,5,6,7,8,9,10,11,12,13]),(11,some [0,1,2,3,4,5,6,7,8,9,10,12,13,14,15]),(15,none),(16,some [0,1,2,3,4,5,6,7,8,9,10,11,12,13,14,15]),(17,none),(18,some [0,1,2,3,4,5,6,7,8,9,10,11,12,13,14,15,16,17]),(19,none)])]
theorem B115_ok:regsO B115 Tryz.f115.body=true:=by kernel_rfl
theorem F115_ok:FOk Tryz.prog 115 (FI.of Tryz.f115 T115 B115):=FOk.of Tryz.func115 rfl T115_ok B115_ok Tryz.call115
def T116:Tab:=[(3,ti3),(5,ti5),(30,ti30),(113,ti113),(140,ti140)]
theorem T116_ok:TabOk Tryz.prog T116:=.cons tk3 <| .cons tk5 <| .cons tk30 <| .cons tk113 <| .cons tk140 <| .nil mixed
def B116:SchT:=[(10,[(0,some [1,2,3,4,5,6,7,8,9,10,11,12,13,14,15]),(1,some [0,2,3,4,5,6,7,8,9,10,11,12,13,14,15]),(2,some [0,1,3,4,5,6,7,8,9,10,11,12,13,14,15,16,17]),(3,some [0,1,2,4,6,7,8,9,10,11,12,13,14,15,16,17]),(4,some [0,1,2,3,6,7,8,9,10,11,12,13,14,15,16,17]),(5,some [0,1,2,3,4,6,7,8,9,10,11,12,13,14,15,16,17]),(6,some [0,1,2,3,4,5,7,8,9,12,13,14,15]),(7,some [0,1,2,3,4,5,6,8,12,13,14,15]),(8,some [0,1,2,3,4,5,6,7,12,13,14,15]),(9,some [0,1,2,3,4,5,6,7,8,12,13,14,15]),(10,some [0,1,2,3,4,5,6,7,8,9,12,13,14,15]),(12,some [0,1,2,3,4,5,6,7,8,9,10,11,13]),(13,some [0,1,2,3,4,5,6,7,8,9,10,11,12]),(14,some [0,1,2,3,4,5,6,7,8,9,10,11,12,13]),(11,some [0,1,2,3,4,5,6,7,8,9,10,12,13,14,15]),(15,none),(16,some [0,1,2,3,4,5,6,7,8,9,10,11,12,13,14,15]),(17,none),(18,some [0,1,2,3,4,5,6,7,8,9,10,11,12,13,14,15,16,17]),(19,none)])]
theorem B116_ok:regsO B116 Tryz.f116.body=true:=by kernel_rfl
theorem F116_ok:FOk Tryz.prog 116 (FI.of Tryz.f116 T116 B116):=FOk.of Tryz.func116 rfl T116_ok B116_ok Tryz.call116
def T117:Tab:=[(3,ti3),(5,ti5),(30,ti30),(144,ti144)]
theorem T117_ok:TabOk Tryz.prog T117:=.cons tk3 <| .cons tk5 <| .cons tk30 <| .cons tk144 <| .nil mixed
def B117:SchT:=[]
theorem B117_ok:regsO B117 Tryz.f117.body=true:=by kernel_rfl
theorem F117_ok:FOk Tryz.prog 117 (FI.of Tryz.f117 T117 B117):=FOk.of Tryz.func117 rfl T117_ok B117_ok Tryz.call117
def T118:Tab:=[(3,ti3),(5,ti5),(30,ti30)]
theorem T118_ok:TabOk Tryz.prog T118:=.cons tk3 <| .cons tk5 <| .cons tk30 <| .nil mixed
def B118:SchT:=[(3,[(0,some [1,2,3,4,5,6,7,8,9,10,11]),(1,some [0,2,3,4,5,6,7,8,9,10,11]),(2,some [0,1,3,4,5,6,7,8,9,10,11,12,13]),(3,some [0,1,2,4,5,6,7,8,9,10,11,12,13]),(4,some [0,1,2,3,5,8,9,10,11]),(5,some [0,1,2,3,4,8,9,10,11]),(6,some [0,1,2,3,4,5,8,9,10,11]),(8,some [0,1,2,3,4,5,6,7,9]),(9,some [0,1,2,3,4,5,6,7,8]),(10,some [0,1,2,3,4,5,6,7,8,9]),(7,some [0,1,2,3,4,5,6,8,9,10,11]),(11,none),(12,some [0,1,2,3,4,5,6,7,8,9,10,11]),(13,none),(14,some [0,1,2,3,4,5,6,7,8,9,10,11,12,13]),(15,none)])]
theorem B118_ok:regsO B118 Tryz.f118.body=true:=by kernel_rfl
theorem F118_ok:FOk Tryz.prog 118 (FI.of Tryz.f118 T118 B118):=FOk.of Tryz.func118 rfl T118_ok B118_ok Tryz.call118
def T119:Tab:=[(3,ti3),(4,ti4),(5,ti5),(30,ti30)]
theorem T119_ok:TabOk Tryz.prog T119:=.cons tk3 <| .cons tk4 <| .cons tk5 <| .cons tk30 <| .nil mixed
def B119:SchT:=[(5,[(0,some [1]),(1,some [0]),(2,some [0,1]),(3,some [0,1,2]),(4,some [0,1,2,3,5,8,9,10,11,12]),(5,some [0,1,2,3,4,8,9,10,11,12]),(6,some [0,1,2,3,4,5,8,9,10,11,12]),(8,some [0,1,2,3,4,5,6,7,9,10]),(9,some [0,1,2,3,4,5,6,7,8]),(10,some [0,1,2,3,4,5,6,7,8,9]),(11,some [0,1,2,3,4,5,6,7,8,9,10]),(7,some [0,1,2,3,4,5,6,8,9,10,11,12]),(12,none),(13,none),(14,some [0,1,2,3,4,5,6,7,8,9,10,11,12,13]),(15,some [0,1,2,3,4,5,6,7,8,9,10,11,12,13,14])]),(11,[(0,some [1,2,3,4,5,6,7,8,9,10,11,12,13]),(1,some [0,2,3,4,5,6,7,8,9,10,11,12,13]),(2,some [0,1,3,4,5,6,7,8,9,10,11,12,13,14,15]),(3,some [0,1,2,5,6,7,8,9,10,11,12,13,14,15]),(4,some [0,1,2,3,5,6,7,8,9,10,11,12,13,14,15]),(5,some [0,1,2,3,4,6,7,10,11,12,13]),(6,some [0,1,2,3,4,5,10,11,12,13]),(7,some [0,1,2,3,4,5,6,10,11,12,13]),(8,some [0,1,2,3,4,5,6,7,10,11,12,13]),(10,some [0,1,2,3,4,5,6,7,8,9,11]),(11,some [0,1,2,3,4,5,6,7,8,9,10]),(12,some [0,1,2,3,4,5,6,7,8,9,10,11]),(9,some [0,1,2,3,4,5,6,7,8,10,11,12,13]),(13,none),(14,some [0,1,2,3,4,5,6,7,8,9,10,11,12,13]),(15,none),(16,some [0,1,2,3,4,5,6,7,8,9,10,11,12,13,14,15]),(17,none)]),(16,[(0,some [1,4,5,6,7,8]),(1,some [0,4,5,6,7,8]),(2,some [0,1,4,5,6,7,8]),(4,some [0,1,2,3,5,6]),(5,some [0,1,2,3,4]),(6,some [0,1,2,3,4,5]),(7,some [0,1,2,3,4,5,6]),(3,some [0,1,2,4,5,6,7,8]),(8,none),(9,none),(10,some [0,1,2,3,4,5,6,7,8,9])]),(17,[(0,some [1,2,3,4,5,6,7,8,9,10,11,12,13]),(1,some [0,2,3,4,5,6,7,8,9,10,11,12,13]),(2,some [0,1,3,4,5,6,7,8,9,10,11,12,13,14,15]),(3,some [0,1,2,5,6,7,8,9,10,11,12,13,14,15]),(4,some [0,1,2,3,5,6,7,8,9,10,11,12,13,14,15]),(5,some [0,1,2,3,4,6,7,10,11,12,13]),(6,some [0,1,2,3,4,5,10,11,12,13]),(7,some [0,1,2,3,4,5,6,10,11,12,13]),(8,some [0,1,2,3,4,5,6,7,10,11,12,13]),(10,some [0,1,2,3,4,5,6,7,8,9,11]),(11,some [0,1,2,3,4,5,6,7,8,9,10]),(12,some [0,1,2,3,4,5,6,7,8,9,10,11]),(9,some [0,1,2,3,4,5,6,7,8,10,11,12,13]),(13,none),(14,some [0,1,2,3,4,5,6,7,8,9,10,11,12,13]),(15,none),(16,some [0,1,2,3,4,5,6,7,8,9,10,11,12,13,14,15]),(17,none)]),(22,[(0,some [1,4,5,6,7,8]),(1,some [0,4,5,6,7,8]),(2,some [0,1,4,5,6,7,8]),(4,some [0,1,2,3,5,6]),(5,some [0,1,2,3,4]),(6,some [0,1,2,3,4,5]),(7,some [0,1,2,3,4,5,6]),(3,some [0,1,2,4,5,6,7,8]),(8,none),(9,none),(10,some [0,1,2,3,4,5,6,7,8,9])]),(23,[(0,some [1,2,3,4,5,6,7,8,9,10,11,12,13]),(1,some [0,2,3,4,5,6,7,8,9,10,11,12,13]),(2,some [0,1,3,4,5,6,7,8,9,10,11,12,13,14,15]),(3,some [0,1,2,5,6,7,8,9,10,11,12,13,14,15]),(4,some [0,1,2,3,5,6,7,8,9,10,11,12,13,14,15]),(5,some [0,1,2,3,4,6,7,10,11,12,13]),(6,some [0,1,2,3,4,5,10,11,12,13]),(7,some [0,1,2,3,4,5,6,10,11,12,13]),(8,some [0,1,2,3,4,5,6,7,10,11,12,13]),(10,some [0,1,2,3,4,5,6,7,8,9,11]),(11,some [0,1,2,3,4,5,6,7,8,9,10]),(12,some [0,1,2,3,4,5,6,7,8,9,10,11]),(9,some [0,1,2,3,4,5,6,7,8,10,11,12,13]),(13,none),(14,some [0,1,2,3,4,5,6,7,8,9,10,11,12,13]),(15,none),(16,some [0,1,2,3,4,5,6,7,8,9,10,11,12,13,14,15]),(17,none)])]
theorem B119_ok:regsO B119 Tryz.f119.body=true:=by kernel_rfl
theorem F119_ok:FOk Tryz.prog 119 (FI.of Tryz.f119 T119 B119):=FOk.of Tryz.func119 rfl T119_ok B119_ok Tryz.call119
def T120:Tab:=[(4,ti4),(5,ti5)]
theorem T120_ok:TabOk Tryz.prog T120:=.cons tk4 <| .cons tk5 <| .nil mixed
def B120:SchT:=[]
theorem B120_ok:regsO B120 Tryz.f120.body=true:=by kernel_rfl
theorem F120_ok:FOk Tryz.prog 120 (FI.of Tryz.f120 T120 B120):=FOk.of Tryz.func120 rfl T120_ok B120_ok Tryz.call120
def T121:Tab:=[(3,ti3),(4,ti4),(5,ti5),(30,ti30)]
theorem T121_ok:TabOk Tryz.prog T121:=.cons tk3 <| .cons tk4 <| .cons tk5 <| .cons tk30 <| .nil mixed
def B121:SchT:=[(1,[(0,some [1,2,3,4,5,6,7,8,9,10,11]),(1,some [0,2,3,4,5,6,7,8,9,10,11]),(2,some [0,1,3,4,5,6,7,8,9,10,11,12,13]),(3,some [0,1,2,4,5,6,7,8,9,10,11,12,13]),(4,some [0,1,2,3,5,8,9,10,11]),(5,some [0,1,2,3,4,8,9,10,11]),(6,some [0,1,2,3,4,5,8,9,10,11]),(8,some [0,1,2,3,4,5,6,7,9]),(9,some [0,1,2,3,4,5,6,7,8]),(10,some [0,1,2,3,4,5,6,7,8,9]),(7,some [0,1,2,3,4,5,6,8,9,10,11]),(11,none),(12,some [0,1,2,3,4,5,6,7,8,9,10,11]),(13,none),(14,some [0,1,2,3,4,5,6,7,8,9,10,11,12,13]),(15,none)]),(3,[(0,some [1]),(1,some [0]),(2,some [0,1]),(3,some [0,1,2]),(4,some [0,1,2,3,5,8,9,10,11]),(5,some [0,1,2,3,4,8,9,10,11]),(6,some [0,1,2,3,4,5,8,9,10,11]),(8,some [0,1,2,3,4,5,6,7,9]),(9,some [0,1,2,3,4,5,6,7,8]),(10,some [0,1,2,3,4,5,6,7,8,9]),(7,some [0,1,2,3,4,5,6,8,9,10,11]),(11,none),(12,none),(13,some [0,1,2,3,4,5,6,7,8,9,10,11,12]),(14,some [0,1,2,3,4,5,6,7,8,9,10,11,12,13])]),(5,[(0,some [1]),(1,some [0]),(2,some [0,1]),(3,some [0,1,2]),(4,some [0,1,2,3,5,8,9,10,11]),(5,some [0,1,2,3,4,8,9,10,11]),(6,some [0,1,2,3,4,5,8,9,10,11]),(8,some [0,1,2,3,4,5,6,7,9]),(9,some [0,1,2,3,4,5,6,7,8]),(10,some [0,1,2,3,4,5,6,7,8,9]),(7,some [0,1,2,3,4,5,6,8,9,10,11]),(11,none),(12,none),(13,some [0,1,2,3,4,5,6,7,8,9,10,11,12])]),(8,[(0,some [1,2,3,4,5,6,7,8,9,10,11]),(1,some [0,2,3,4,5,6,7,8,9,10,11]),(2,some [0,1,3,4,5,6,7,8,9,10,11,12,13]),(3,some [0,1,2,4,5,6,7,8,9,10,11,12,13]),(4,some [0,1,2,3,5,8,9,10,11]),(5,some [0,1,2,3,4,8,9,10,11]),(6,some [0,1,2,3,4,5,8,9,10,11]),(8,some [0,1,2,3,4,5,6,7,9]),(9,some [0,1,2,3,4,5,6,7,8]),(10,some [0,1,2,3,4,5,6,7,8,9]),(7,some [0,1,2,3,4,5,6,8,9,10,11]),(11,none),(12,some [0,1,2,3,4,5,6,7,8,9,10,11]),(13,none),(14,some [0,1,2,3,4,5,6,7,8,9,10,11,12,13]),(15,none)])]
theorem B121_ok:regsO B121 Tryz.f121.body=true:=by kernel_rfl
theorem F121_ok:FOk Tryz.prog 121 (FI.of Tryz.f121 T121 B121):=FOk.of Tryz.func121 rfl T121_ok B121_ok Tryz.call121
def T122:Tab:=[(3,ti3),(4,ti4),(5,ti5),(30,ti30)]
theorem T122_ok:TabOk Tryz.prog T122:=.cons tk3 <| .cons tk4 <| .cons tk5 <| .cons tk30 <| .nil mixed
def B122:SchT:=[(1,[(0,some [1,2,3,4,5,6,7,8,9,10,11]),(1,some [0,2,3,4,5,6,7,8,9,10,11]),(2,some [0,1,3,4,5,6,7,8,9,10,11,12,13]),(3,some [0,1,2,4,5,6,7,8,9,10,11,12,13]),(4,some [0,1,2,3,5,8,9,10,11]),(5,some [0,1,2,3,4,8,9,10,11]),(6,some [0,1,2,3,4,5,8,9,10,11]),(8,some [0,1,2,3,4,5,6,7,9]),(9,some [0,1,2,3,4,5,6,7,8]),(10,some [0,1,2,3,4,5,6,7,8,9]),(7,some [0,1,2,3,4,5,6,8,9,10,11]),(11,none),(12,some [0,1,2,3,4,5,6,7,8,9,10,11]),(13,none),(14,some [0,1,2,3,4,5,6,7,8,9,10,11,12,13]),(15,none)]),(3,[(0,some [1]),(1,some [0]),(2,some [0,1]),(3,some [0,1,2]),(4,some [0,1,2,3,5,8,9,10,11]),(5,some [0,1,2,3,4,8,9,10,11]),(6,some [0,1,2,3,4,5,8,9,10,11]),(8,some [0,1,2,3,4,5,6,7,9]),(9,some [0,1,2,3,4,5,6,7,8]),(10,some [0,1,2,3,4,5,6,7,8,9]),(7,some [0,1,2,3,4,5,6,8,9,10,11]),(11,none),(12,none),(13,some [0,1,2,3,4,5,6,7,8,9,10,11,12])]),(5,[(0,some [1]),(1,some [0]),(2,some [0,1]),(3,some [0,1,2]),(4,some [0,1,2,3,5,8,9,10,11]),(5,some [0,1,2,3,4,8,9,10,11]),(6,some [0,1,2,3,4,5,8,9,10,11]),(8,some [0,1,2,3,4,5,6,7,9]),(9,some [0,1,2,3,4,5,6,7,8]),(10,some [0,1,2,3,4,5,6,7,8,9]),(7,some [0,1,2,3,4,5,6,8,9,10,11]),(11,none),(12,none),(13,some [0,1,2,3,4,5,6,7,8,9,10,11,12]),(14,some [0,1,2,3,4,5,6,7,8,9,10,11,12,13])]),(8,[(0,some [1,2,3,4,5,6,7,8,9,10,11]),(1,some [0,2,3,4,5,6,7,8,9,10,11]),(2,some [0,1,3,4,5,6,7,8,9,10,11,12,13]),(3,some [0,1,2,4,5,6,7,8,9,10,11,12,13]),(4,some [0,1,2,3,5,8,9,10,11]),(5,some [0,1,2,3,4,8,9,10,11]),(6,some [0,1,2,3,4,5,8,9,10,11]),(8,some [0,1,2,3,4,5,6,7,9]),(9,some [0,1,2,3,4,5,6,7,8]),(10,some [0,1,2,3,4,5,6,7,8,9]),(7,some [0,1,2,3,4,5,6,8,9,10,11]),(11,none),(12,some [0,1,2,3,4,5,6,7,8,9,10,11]),(13,none),(14,some [0,1,2,3,4,5,6,7,8,9,10,11,12,13]),(15,none)]),(10,[(0,some [1,2,3,4,5,6,7,8,9,10,11]),(1,some [0,2,3,4,5,6,7,8,9,10,11]),(2,some [0,1,3,4,5,6,7,8,9,10,11,12,13]),(3,some [0,1,2,4,5,6,7,8,9,10,11,12,13]),(4,some [0,1,2,3,5,8,9,10,11]),(5,some [0,1,2,3,4,8,9,10,11]),(6,some [0,1,2,3,4,5,8,9,10,11]),(8,some [0,1,2,3,4,5,6,7,9]),(9,some [0,1,2,3,4,5,6,7,8]),(10,some [0,1,2,3,4,5,6,7,8,9]),(7,some [0,1,2,3,4,5,6,8,9,10,11]),(11,none),(12,some [0,1,2,3,4,5,6,7,8,9,10,11]),(13,none),(14,some [0,1,2,3,4,5,6,7,8,9,10,11,12,13]),(15,none)]),(13,[(0,some [1]),(1,some [0]),(2,some [0,1]),(3,some [0,1,2]),(4,some [0,1,2,3,5,8,9,10,11]),(5,some [0,1,2,3,4,8,9,10,11]),(6,some [0,1,2,3,4,5,8,9,10,11]),(8,some [0,1,2,3,4,5,6,7,9]),(9,some [0,1,2,3,4,5,6,7,8]),(10,some [0,1,2,3,4,5,6,7,8,9]),(7,some [0,1,2,3,4,5,6,8,9,10,11]),(11,none),(12,none),(13,some [0,1,2,3,4,5,6,7,8,9,10,11,12])]),(15,[(0,some [1]),(1,some [0]),(2,some [0,1]),(3,some [0,1,2]),(4,some [0,1,2,3,5,8,9,10,11]),(5,some [0,1,2,3,4,8,9,10,11]),(6,some [0,1,2,3,4,5,8,9,10,11]),(8,some [0,1,2,3,4,5,6,7,9]),(9,some [0,1,2,3,4,5,6,7,8]),(10,some [0,1,2,3,4,5,6,7,8,9]),(7,some [0,1,2,3,4,5,6,8,9,10,11]),(11,none),(12,none),(13,some [0,1,2,3,4,5,6,7,8,9,10,11,12]),(14,some [0,1,2,3,4,5,6,7,8,9,10,11,12,13])]),(18,[(0,some [1,2,3,4,5,6,7,8,9,10,11]),(1,some [0,2,3,4,5,6,7,8,9,10,11]),(2,some [0,1,3,4,5,6,7,8,9,10,11,12,13]),(3,some [0,1,2,4,5,6,7,8,9,10,11,12,13]),(4,some [0,1,2,3,5,8,9,10,11]),(5,some [0,1,2,3,4,8,9,10,11]),(6,some [0,1,2,3,4,5,8,9,10,11]),(8,some [0,1,2,3,4,5,6,7,9]),(9,some [0,1,2,3,4,5,6,7,8]),(10,some [0,1,2,3,4,5,6,7,8,9]),(7,some [0,1,2,3,4,5,6,8,9,10,11]),(11,none),(12,some [0,1,2,3,4,5,6,7,8,9,10,11]),(13,none),(14,some [0,1,2,3,4,5,6,7,8,9,10,11,12,13]),(15,none)]),(21,[(0,some [1,2,3,4,5,6,7,8,9,10,11]),(1,some [0,2,3,4,5,6,7,8,9,10,11]),(2,some [0,1,3,4,5,6,7,8,9,10,11,12,13]),(3,some [0,1,2,4,5,6,7,8,9,10,11,12,13]),(4,some [0,1,2,3,5,8,9,10,11]),(5,some [0,1,2,3,4,8,9,10,11]),(6,some [0,1,2,3,4,5,8,9,10,11]),(8,some [0,1,2,3,4,5,6,7,9]),(9,some [0,1,2,3,4,5,6,7,8]),(10,some [0,1,2,3,4,5,6,7,8,9]),(7,some [0,1,2,3,4,5,6,8,9,10,11]),(11,none),(12,some [0,1,2,3,4,5,6,7,8,9,10,11]),(13,none),(14,some [0,1,2,3,4,5,6,7,8,9,10,11,12,13]),(15,none)])]
theorem B122_ok:regsO B122 Tryz.f122.body=true:=by kernel_rfl
theorem F122_ok:FOk Tryz.prog 122 (FI.of Tryz.f122 T122 B122):=FOk.of Tryz.func122 rfl T122_ok B122_ok Tryz.call122
def T124:Tab:=[(3,ti3),(135,ti135),(148,ti148)]
theorem T124_ok:TabOk Tryz.prog T124:=.cons tk3 <| .cons tk135 <| .cons tk148 <| .nil mixed
def B124:SchT:=[(4,[(0,some [1]),(1,some [0]),(2,some [0,1]),(3,some [0,1,2]),(4,some [0,1,2,3,5,6,7,8,9,10,11,12,13]),(5,some [0,1,2,3,4,6,9,10,11,12,13]),(6,some [0,1,2,3,4,5,9,10,11,12,13]),(7,some [0,1,2,3,4,5,6,9,10,11,12,13]),(9,some [0,1,2,3,4,5,6,7,8,10,11]),(10,some [0,1,2,3,4,5,6,7,8,9]),(11,some [0,1,2,3,4,5,6,7,8,9,10]),(12,some [0,1,2,3,4,5,6,7,8,9,10,11]),(8,some [0,1,2,3,4,5,6,7,9,10,11,12,13]),(13,none),(14,none),(15,some [0,1,2,3,4,5,6,7,8,9,10,11,12,13,14]),(16,some [0,1,2,3,4,5,6,7,8,9,10,11,12,13,14,15])]),(6,[(0,some [1,2,3,4,5,6,7,8,9,10,11,12,13]),(1,some [0,2,3,4,5,6,7,8,9,10,11,12,13]),(2,some [0,1,3,4,5,6,7,8,9,10,11,12,13,14,15]),(3,some [0,1,2,5,6,7,8,9,10,11,12,13,14,15]),(4,some [0,1,2,3,5,6,7,8,9,10,11,12,13,14,15]),(5,some [0,1,2,3,4,6,7,10,11,12,13]),(6,some [0,1,2,3,4,5,10,11,12,13]),(7,some [0,1,2,3,4,5,6,10,11,12,13]),(8,some [0,1,2,3,4,5,6,7,10,11,12,13]),(10,some [0,1,2,3,4,5,6,7,8,9,11]),(11,some [0,1,2,3,4,5,6,7,8,9,10]),(12,some [0,1,2,3,4,5,6,7,8,9,10,11]),(9,some [0,1,2,3,4,5,6,7,8,10,11,12,13]),(13,none),(14,some [0,1,2,3,4,5,6,7,8,9,10,11,12,13]),(15,none),(16,some [0,1,2,3,4,5,6,7,8,9,10,11,12,13,14,15]),(17,none)])]
theorem B124_ok:regsO B124 Tryz.f124.body=true:=by kernel_rfl
theorem F124_ok:FOk Tryz.prog 124 (FI.of Tryz.f124 T124 B124):=FOk.of Tryz.func124 rfl T124_ok B124_ok Tryz.call124
def T125:Tab:=[(3,ti3),(135,ti135),(148,ti148),(155,ti155)]
theorem T125_ok:TabOk Tryz.prog T125:=.cons tk3 <| .cons tk135 <| .cons tk148 <| .cons tk155 <| .nil mixed
def B125:SchT:=[(10,[(0,some [1,2,3,4,5,6,7,8,9,10,11,12,13,14,15]),(1,some [0,2,3,4,5,6,7,8,9,10,11,12,13,14,15]),(2,some [0,1,3,4,5,6,7,8,9,10,11,12,13,14,15,16,17]),(3,some [0,1,2,4,6,7,8,9,10,11,12,13,14,15,16,17]),(4,some [0,1,2,3,6,7,8,9,10,11,12,13,14,15,16,17]),(5,some [0,1,2,3,4,6,7,8,9,10,11,12,13,14,15,16,17]),(6,some [0,1,2,3,4,5,7,8,9,12,13,14,15]),(7,some [0,1,2,3,4,5,6,8,12,13,14,15]),(8,some [0,1,2,3,4,5,6,7,12,13,14,15]),(9,some [0,1,2,3,4,5,6,7,8,12,13,14,15]),(10,some [0,1,2,3,4,5,6,7,8,9,12,13,14,15]),(12,some [0,1,2,3,4,5,6,7,8,9,10,11,13]),(13,some [0,1,2,3,4,5,6,7,8,9,10,11,12]),(14,some [0,1,2,3,4,5,6,7,8,9,10,11,12,13]),(11,some [0,1,2,3,4,5,6,7,8,9,10,12,13,14,15]),(15,none),(16,some [0,1,2,3,4,5,6,7,8,9,10,11,12,13,14,15]),(17,none),(18,some [0,1,2,3,4,5,6,7,8,9,10,11,12,13,14,15,16,17]),(19,none)])]
theorem B125_ok:regsO B125 Tryz.f125.body=true:=by kernel_rfl
theorem F125_ok:FOk Tryz.prog 125 (FI.of Tryz.f125 T125 B125):=FOk.of Tryz.func125 rfl T125_ok B125_ok Tryz.call125
def T126:Tab:=[(3,ti3),(113,ti113),(135,ti135),(140,ti140),(148,ti148)]
theorem T126_ok:TabOk Tryz.prog T126:=.cons tk3 <| .cons tk113 <| .cons tk135 <| .cons tk140 <| .cons tk148 <| .nil mixed
def B126:SchT:=[(10,[(0,some [1,2,3,4,5,6,7,8,9,10,11,12,13,14,15]),(1,some [0,2,3,4,5,6,7,8,9,10,11,12,13,14,15]),(2,some [0,1,3,4,5,6,7,8,9,10,11,12,13,14,15,16,17]),(3,some [0,1,2,4,6,7,8,9,10,11,12,13,14,15,16,17]),(4,some [0,1,2,3,6,7,8,9,10,11,12,13,14,15,16,17]),(5,some [0,1,2,3,4,6,7,8,9,10,11,12,13,14,15,16,17]),(6,some [0,1,2,3,4,5,7,8,9,12,13,14,15]),(7,some [0,1,2,3,4,5,6,8,12,13,14,15]),(8,some [0,1,2,3,4,5,6,7,12,13,14,15]),(9,some [0,1,2,3,4,5,6,7,8,12,13,14,15]),(10,some [0,1,2,3,4,5,6,7,8,9,12,13,14,15]),(12,some [0,1,2,3,4,5,6,7,8,9,10,11,13]),(13,some [0,1,2,3,4,5,6,7,8,9,10,11,12]),(14,some [0,1,2,3,4,5,6,7,8,9,10,11,12,13]),(11,some [0,1,2,3,4,5,6,7,8,9,10,12,13,14,15]),(15,none),(16,some [0,1,2,3,4,5,6,7,8,9,10,11,12,13,14,15]),(17,none),(18,some [0,1,2,3,4,5,6,7,8,9,10,11,12,13,14,15,16,17]),(19,none)])]
theorem B126_ok:regsO B126 Tryz.f126.body=true:=by kernel_rfl
theorem F126_ok:FOk Tryz.prog 126 (FI.of Tryz.f126 T126 B126):=FOk.of Tryz.func126 rfl T126_ok B126_ok Tryz.call126
def T127:Tab:=[(3,ti3),(135,ti135),(144,ti144),(148,ti148),(155,ti155)]
theorem T127_ok:TabOk Tryz.prog T127:=.cons tk3 <| .cons tk135 <| .cons tk144 <| .cons tk148 <| .cons tk155 <| .nil mixed
def B127:SchT:=[]
theorem B127_ok:regsO B127 Tryz.f127.body=true:=by kernel_rfl
theorem F127_ok:FOk Tryz.prog 127 (FI.of Tryz.f127 T127 B127):=FOk.of Tryz.func127 rfl T127_ok B127_ok Tryz.call127
def T128:Tab:=[(3,ti3),(135,ti135),(148,ti148)]
theorem T128_ok:TabOk Tryz.prog T128:=.cons tk3 <| .cons tk135 <| .cons tk148 <| .nil mixed
def B128:SchT:=[(3,[(0,some [1,2,3,4,5,6,7,8,9,10,11]),(1,some [0,2,3,4,5,6,7,8,9,10,11]),(2,some [0,1,3,4,5,6,7,8,9,10,11,12,13]),(3,some [0,1,2,4,5,6,7,8,9,10,11,12,13]),(4,some [0,1,2,3,5,8,9,10,11]),(5,some [0,1,2,3,4,8,9,10,11]),(6,some [0,1,2,3,4,5,8,9,10,11]),(8,some [0,1,2,3,4,5,6,7,9]),(9,some [0,1,2,3,4,5,6,7,8]),(10,some [0,1,2,3,4,5,6,7,8,9]),(7,some [0,1,2,3,4,5,6,8,9,10,11]),(11,none),(12,some [0,1,2,3,4,5,6,7,8,9,10,11]),(13,none),(14,some [0,1,2,3,4,5,6,7,8,9,10,11,12,13]),(15,none)])]
theorem B128_ok:regsO B128 Tryz.f128.body=true:=by kernel_rfl
theorem F128_ok:FOk Tryz.prog 128 (FI.of Tryz.f128 T128 B128):=FOk.of Tryz.func128 rfl T128_ok B128_ok Tryz.call128
def T129:Tab:=[(3,ti3),(4,ti4),(135,ti135),(148,ti148)]
theorem T129_ok:TabOk Tryz.prog T129:=.cons tk3 <| .cons tk4 <| .cons tk135 <| .cons tk148 <| .nil mixed
def B129:SchT:=[(5,[(0,some [1]),(1,some [0]),(2,some [0,1]),(3,some [0,1,2]),(4,some [0,1,2,3,5,6,7,8,9,10,11,12,13]),(5,some [0,1,2,3,4,6,9,10,11,12,13]),(6,some [0,1,2,3,4,5,9,10,11,12,13]),(7,some [0,1,2,3,4,5,6,9,10,11,12,13]),(9,some [0,1,2,3,4,5,6,7,8,10,11]),(10,some [0,1,2,3,4,5,6,7,8,9]),(11,some [0,1,2,3,4,5,6,7,8,9,10]),(12,some [0,1,2,3,4,5,6,7,8,9,10,11]),(8,some [0,1,2,3,4,5,6,7,9,10,11,12,13]),(13,none),(14,none),(15,some [0,1,2,3,4,5,6,7,8,9,10,11,12,13,14]),(16,some [0,1,2,3,4,5,6,7,8,9,10,11,12,13,14,15]),(17,some [0,1,2,3,4,5,6,7,8,9,10,11,12,13,14,15,16])]),(11,[(0,some [1,2,3,4,5,6,7,8,9,10,11,12,13]),(1,some [0,2,3,4,5,6,7,8,9,10,11,12,13]),(2,some [0,1,3,4,5,6,7,8,9,10,11,12,13,14,15]),(3,some [0,1,2,5,6,7,8,9,10,11,12,13,14,15]),(4,some [0,1,2,3,5,6,7,8,9,10,11,12,13,14,15]),(5,some [0,1,2,3,4,6,7,10,11,12,13]),(6,some [0,1,2,3,4,5,10,11,12,13]),(7,some [0,1,2,3,4,5,6,10,11,12,13]),(8,some [0,1,2,3,4,5,6,7,10,11,12,13]),(10,some [0,1,2,3,4,5,6,7,8,9,11]),(11,some [0,1,2,3,4,5,6,7,8,9,10]),(12,some [0,1,2,3,4,5,6,7,8,9,10,11]),(9,some [0,1,2,3,4,5,6,7,8,10,11,12,13]),(13,none),(14,some [0,1,2,3,4,5,6,7,8,9,10,11,12,13]),(15,none),(16,some [0,1,2,3,4,5,6,7,8,9,10,11,12,13,14,15]),(17,none)]),(16,[(0,some [1,2,3,4,5,6,7,8,9]),(1,some [0,2,5,6,7,8,9]),(2,some [0,1,5,6,7,8,9]),(3,some [0,1,2,5,6,7,8,9]),(5,some [0,1,2,3,4,6,7]),(6,some [0,1,2,3,4,5]),(7,some [0,1,2,3,4,5,6]),(8,some [0,1,2,3,4,5,6,7]),(4,some [0,1,2,3,5,6,7,8,9]),(9,none),(10,none),(11,some [0,1,2,3,4,5,6,7,8,9,10]),(12,some [0,1,2,3,4,5,6,7,8,9,10,11])]),(17,[(0,some [1,2,3,4,5,6,7,8,9,10,11,12,13]),(1,some [0,2,3,4,5,6,7,8,9,10,11,12,13]),(2,some [0,1,3,4,5,6,7,8,9,10,11,12,13,14,15]),(3,some [0,1,2,5,6,7,8,9,10,11,12,13,14,15]),(4,some [0,1,2,3,5,6,7,8,9,10,11,12,13,14,15]),(5,some [0,1,2,3,4,6,7,10,11,12,13]),(6,some [0,1,2,3,4,5,10,11,12,13]),(7,some [0,1,2,3,4,5,6,10,11,12,13]),(8,some [0,1,2,3,4,5,6,7,10,11,12,13]),(10,some [0,1,2,3,4,5,6,7,8,9,11]),(11,some [0,1,2,3,4,5,6,7,8,9,10]),(12,some [0,1,2,3,4,5,6,7,8,9,10,11]),(9,some [0,1,2,3,4,5,6,7,8,10,11,12,13]),(13,none),(14,some [0,1,2,3,4,5,6,7,8,9,10,11,12,13]),(15,none),(16,some [0,1,2,3,4,5,6,7,8,9,10,11,12,13,14,15]),(17,none)]),(22,[(0,some [1,2,3,4,5,6,7,8,9]),(1,some [0,2,5,6,7,8,9]),(2,some [0,1,5,6,7,8,9]),(3,some [0,1,2,5,6,7,8,9]),(5,some [0,1,2,3,4,6,7]),(6,some [0,1,2,3,4,5]),(7,some [0,1,2,3,4,5,6]),(8,some [0,1,2,3,4,5,6,7]),(4,some [0,1,2,3,5,6,7,8,9]),(9,none),(10,none),(11,some [0,1,2,3,4,5,6,7,8,9,10]),(12,some [0,1,2,3,4,5,6,7,8,9,10,11])]),(23,[(0,some [1,2,3,4,5,6,7,8,9,10,11,12,13]),(1,some [0,2,3,4,5,6,7,8,9,10,11,12,13]),(2,some [0,1,3,4,5,6,7,8,9,10,11,12,13,14,15]),(3,some [0,1,2,5,6,7,8,9,10,11,12,13,14,15]),(4,some [0,1,2,3,5,6,7,8,9,10,11,12,13,14,15]),(5,some [0,1,2,3,4,6,7,10,11,12,13]),(6,some [0,1,2,3,4,5,10,11,12,13]),(7,some [0,1,2,3,4,5,6,10,11,12,13]),(8,some [0,1,2,3,4,5,6,7,10,11,12,13]),(10,some [0,1,2,3,4,5,6,7,8,9,11]),(11,some [0,1,2,3,4,5,6,7,8,9,10]),(12,some [0,1,2,3,4,5,6,7,8,9,10,11]),(9,some [0,1,2,3,4,5,6,7,8,10,11,12,13]),(13,none),(14,some [0,1,2,3,4,5,6,7,8,9,10,11,12,13]),(15,none),(16,some [0,1,2,3,4,5,6,7,8,9,10,11,12,13,14,15]),(17,none)])]
theorem B129_ok:regsO B129 Tryz.f129.body=true:=by kernel_rfl
theorem F129_ok:FOk Tryz.prog 129 (FI.of Tryz.f129 T129 B129):=FOk.of Tryz.func129 rfl T129_ok B129_ok Tryz.call129
def T130:Tab:=[(3,ti3),(4,ti4),(135,ti135),(148,ti148)]
theorem T130_ok:TabOk Tryz.prog T130:=.cons tk3 <| .cons tk4 <| .cons tk135 <| .cons tk148 <| .nil mixed
def B130:SchT:=[(1,[(0,some [1,2,3,4,5,6,7,8,9,10,11]),(1,some [0,2,3,4,5,6,7,8,9,10,11]),(2,some [0,1,3,4,5,6,7,8,9,10,11,12,13]),(3,some [0,1,2,4,5,6,7,8,9,10,11,12,13]),(4,some [0,1,2,3,5,8,9,10,11]),(5,some [0,1,2,3,4,8,9,10,11]),(6,some [0,1,2,3,4,5,8,9,10,11]),(8,some [0,1,2,3,4,5,6,7,9]),(9,some [0,1,2,3,4,5,6,7,8]),(10,some [0,1,2,3,4,5,6,7,8,9]),(7,some [0,1,2,3,4,5,6,8,9,10,11]),(11,none),(12,some [0,1,2,3,4,5,6,7,8,9,10,11]),(13,none),(14,some [0,1,2,3,4,5,6,7,8,9,10,11,12,13]),(15,none)]),(3,[(0,some [1]),(1,some [0]),(2,some [0,1]),(3,some [0,1,2]),(4,some [0,1,2,3,5,6,7,8,9,10,11,12]),(5,some [0,1,2,3,4,6,9,10,11,12]),(6,some [0,1,2,3,4,5,9,10,11,12]),(7,some [0,1,2,3,4,5,6,9,10,11,12]),(9,some [0,1,2,3,4,5,6,7,8,10]),(10,some [0,1,2,3,4,5,6,7,8,9]),(11,some [0,1,2,3,4,5,6,7,8,9,10]),(8,some [0,1,2,3,4,5,6,7,9,10,11,12]),(12,none),(13,none),(14,some [0,1,2,3,4,5,6,7,8,9,10,11,12,13]),(15,some [0,1,2,3,4,5,6,7,8,9,10,11,12,13,14]),(16,some [0,1,2,3,4,5,6,7,8,9,10,11,12,13,14,15])]),(5,[(0,some [1]),(1,some [0]),(2,some [0,1]),(3,some [0,1,2]),(4,some [0,1,2,3,5,6,7,8,9,10,11,12]),(5,some [0,1,2,3,4,6,9,10,11,12]),(6,some [0,1,2,3,4,5,9,10,11,12]),(7,some [0,1,2,3,4,5,6,9,10,11,12]),(9,some [0,1,2,3,4,5,6,7,8,10]),(10,some [0,1,2,3,4,5,6,7,8,9]),(11,some [0,1,2,3,4,5,6,7,8,9,10]),(8,some [0,1,2,3,4,5,6,7,9,10,11,12]),(12,none),(13,none),(14,some [0,1,2,3,4,5,6,7,8,9,10,11,12,13]),(15,some [0,1,2,3,4,5,6,7,8,9,10,11,12,13,14])]),(8,[(0,some [1,2,3,4,5,6,7,8,9,10,11]),(1,some [0,2,3,4,5,6,7,8,9,10,11]),(2,some [0,1,3,4,5,6,7,8,9,10,11,12,13]),(3,some [0,1,2,4,5,6,7,8,9,10,11,12,13]),(4,some [0,1,2,3,5,8,9,10,11]),(5,some [0,1,2,3,4,8,9,10,11]),(6,some [0,1,2,3,4,5,8,9,10,11]),(8,some [0,1,2,3,4,5,6,7,9]),(9,some [0,1,2,3,4,5,6,7,8]),(10,some [0,1,2,3,4,5,6,7,8,9]),(7,some [0,1,2,3,4,5,6,8,9,10,11]),(11,none),(12,some [0,1,2,3,4,5,6,7,8,9,10,11]),(13,none),(14,some [0,1,2,3,4,5,6,7,8,9,10,11,12,13]),(15,none)])]
theorem B130_ok:regsO B130 Tryz.f130.body=true:=by kernel_rfl
theorem F130_ok:FOk Tryz.prog 130 (FI.of Tryz.f130 T130 B130):=FOk.of Tryz.func130 rfl T130_ok B130_ok Tryz.call130
def T131:Tab:=[(3,ti3),(4,ti4),(135,ti135),(148,ti148)]
theorem T131_ok:TabOk Tryz.prog T131:=.cons tk3 <| .cons tk4 <| .cons tk135 <| .cons tk148 <| .nil mixed
def B131:SchT:=[(1,[(0,some [1,2,3,4,5,6,7,8,9,10,11]),(1,some [0,2,3,4,5,6,7,8,9,10,11]),(2,some [0,1,3,4,5,6,7,8,9,10,11,12,13]),(3,some [0,1,2,4,5,6,7,8,9,10,11,12,13]),(4,some [0,1,2,3,5,8,9,10,11]),(5,some [0,1,2,3,4,8,9,10,11]),(6,some [0,1,2,3,4,5,8,9,10,11]),(8,some [0,1,2,3,4,5,6,7,9]),(9,some [0,1,2,3,4,5,6,7,8]),(10,some [0,1,2,3,4,5,6,7,8,9]),(7,some [0,1,2,3,4,5,6,8,9,10,11]),(11,none),(12,some [0,1,2,3,4,5,6,7,8,9,10,11]),(13,none),(14,some [0,1,2,3,4,5,6,7,8,9,10,11,12,13]),(15,none)]),(3,[(0,some [1]),(1,some [0]),(2,some [0,1]),(3,some [0,1,2]),(4,some [0,1,2,3,5,6,7,8,9,10,11,12]),(5,some [0,1,2,3,4,6,9,10,11,12]),(6,some [0,1,2,3,4,5,9,10,11,12]),(7,some [0,1,2,3,4,5,6,9,10,11,12]),(9,some [0,1,2,3,4,5,6,7,8,10]),(10,some [0,1,2,3,4,5,6,7,8,9]),(11,some [0,1,2,3,4,5,6,7,8,9,10]),(8,some [0,1,2,3,4,5,6,7,9,10,11,12]),(12,none),(13,none),(14,some [0,1,2,3,4,5,6,7,8,9,10,11,12,13]),(15,some [0,1,2,3,4,5,6,7,8,9,10,11,12,13,14])]),(5,[(0,some [1]),(1,some [0]),(2,some [0,1]),(3,some [0,1,2]),(4,some [0,1,2,3,5,6,7,8,9,10,11,12]),(5,some [0,1,2,3,4,6,9,10,11,12]),(6,some [0,1,2,3,4,5,9,10,11,12]),(7,some [0,1,2,3,4,5,6,9,10,11,12]),(9,some [0,1,2,3,4,5,6,7,8,10]),(10,some [0,1,2,3,4,5,6,7,8,9]),(11,some [0,1,2,3,4,5,6,7,8,9,10]),(8,some [0,1,2,3,4,5,6,7,9,10,11,12]),(12,none),(13,none),(14,some [0,1,2,3,4,5,6,7,8,9,10,11,12,13]),(15,some [0,1,2,3,4,5,6,7,8,9,10,11,12,13,14]),(16,some [0,1,2,3,4,5,6,7,8,9,10,11,12,13,14,15])]),(8,[(0,some [1,2,3,4,5,6,7,8,9,10,11]),(1,some [0,2,3,4,5,6,7,8,9,10,11]),(2,some [0,1,3,4,5,6,7,8,9,10,11,12,13]),(3,some [0,1,2,4,5,6,7,8,9,10,11,12,13]),(4,some [0,1,2,3,5,8,9,10,11]),(5,some [0,1,2,3,4,8,9,10,11]),(6,some [0,1,2,3,4,5,8,9,10,11]),(8,some [0,1,2,3,4,5,6,7,9]),(9,some [0,1,2,3,4,5,6,7,8]),(10,some [0,1,2,3,4,5,6,7,8,9]),(7,some [0,1,2,3,4,5,6,8,9,10,11]),(11,none),(12,some [0,1,2,3,4,5,6,7,8,9,10,11]),(13,none),(14,some [0,1,2,3,4,5,6,7,8,9,10,11,12,13]),(15,none)]),(10,[(0,some [1,2,3,4,5,6,7,8,9,10,11]),(1,some [0,2,3,4,5,6,7,8,9,10,11]),(2,some [0,1,3,4,5,6,7,8,9,10,11,12,13]),(3,some [0,1,2,4,5,6,7,8,9,10,11,12,13]),(4,some [0,1,2,3,5,8,9,10,11]),(5,some [0,1,2,3,4,8,9,10,11]),(6,some [0,1,2,3,4,5,8,9,10,11]),(8,some [0,1,2,3,4,5,6,7,9]),(9,some [0,1,2,3,4,5,6,7,8]),(10,some [0,1,2,3,4,5,6,7,8,9]),(7,some [0,1,2,3,4,5,6,8,9,10,11]),(11,none),(12,some [0,1,2,3,4,5,6,7,8,9,10,11]),(13,none),(14,some [0,1,2,3,4,5,6,7,8,9,10,11,12,13]),(15,none)]),(13,[(0,some [1]),(1,some [0]),(2,some [0,1]),(3,some [0,1,2]),(4,some [0,1,2,3,5,6,7,8,9,10,11,12]),(5,some [0,1,2,3,4,6,9,10,11,12]),(6,some [0,1,2,3,4,5,9,10,11,12]),(7,some [0,1,2,3,4,5,6,9,10,11,12]),(9,some [0,1,2,3,4,5,6,7,8,10]),(10,some [0,1,2,3,4,5,6,7,8,9]),(11,some [0,1,2,3,4,5,6,7,8,9,10]),(8,some [0,1,2,3,4,5,6,7,9,10,11,12]),(12,none),(13,none),(14,some [0,1,2,3,4,5,6,7,8,9,10,11,12,13]),(15,some [0,1,2,3,4,5,6,7,8,9,10,11,12,13,14])]),(15,[(0,some [1]),(1,some [0]),(2,some [0,1]),(3,some [0,1,2]),(4,some [0,1,2,3,5,6,7,8,9,10,11,12]),(5,some [0,1,2,3,4,6,9,10,11,12]),(6,some [0,1,2,3,4,5,9,10,11,12]),(7,some [0,1,2,3,4,5,6,9,10,11,12]),(9,some [0,1,2,3,4,5,6,7,8,10]),(10,some [0,1,2,3,4,5,6,7,8,9]),(11,some [0,1,2,3,4,5,6,7,8,9,10]),(8,some [0,1,2,3,4,5,6,7,9,10,11,12]),(12,none),(13,none),(14,some [0,1,2,3,4,5,6,7,8,9,10,11,12,13]),(15,some [0,1,2,3,4,5,6,7,8,9,10,11,12,13,14]),(16,some [0,1,2,3,4,5,6,7,8,9,10,11,12,13,14,15])]),(18,[(0,some [1,2,3,4,5,6,7,8,9,10,11]),(1,some [0,2,3,4,5,6,7,8,9,10,11]),(2,some [0,1,3,4,5,6,7,8,9,10,11,12,13]),(3,some [0,1,2,4,5,6,7,8,9,10,11,12,13]),(4,some [0,1,2,3,5,8,9,10,11]),(5,some [0,1,2,3,4,8,9,10,11]),(6,some [0,1,2,3,4,5,8,9,10,11]),(8,some [0,1,2,3,4,5,6,7,9]),(9,some [0,1,2,3,4,5,6,7,8]),(10,some [0,1,2,3,4,5,6,7,8,9]),(7,some [0,1,2,3,4,5,6,8,9,10,11]),(11,none),(12,some [0,1,2,3,4,5,6,7,8,9,10,11]),(13,none),(14,some [0,1,2,3,4,5,6,7,8,9,10,11,12,13]),(15,none)]),(21,[(0,some [1,2,3,4,5,6,7,8,9,10,11]),(1,some [0,2,3,4,5,6,7,8,9,10,11]),(2,some [0,1,3,4,5,6,7,8,9,10,11,12,13]),(3,some [0,1,2,4,5,6,7,8,9,10,11,12,13]),(4,some [0,1,2,3,5,8,9,10,11]),(5,some [0,1,2,3,4,8,9,10,11]),(6,some [0,1,2,3,4,5,8,9,10,11]),(8,some [0,1,2,3,4,5,6,7,9]),(9,some [0,1,2,3,4,5,6,7,8]),(10,some [0,1,2,3,4,5,6,7,8,9]),(7,some [0,1,2,3,4,5,6,8,9,10,11]),(11,none),(12,some [0,1,2,3,4,5,6,7,8,9,10,11]),(13,none),(14,some [0,1,2,3,4,5,6,7,8,9,10,11,12,13]),(15,none)])]
theorem B131_ok:regsO B131 Tryz.f131.body=true:=by kernel_rfl
theorem F131_ok:FOk Tryz.prog 131 (FI.of Tryz.f131 T131 B131):=FOk.of Tryz.func131 rfl T131_ok B131_ok Tryz.call131
def T132:Tab:=[(3,ti3),(4,ti4),(5,ti5),(30,ti30)]
theorem T132_ok:TabOk Tryz.prog T132:=.cons tk3 <| .cons tk4 <| .cons tk5 <| .cons tk30 <| .nil mixed
def B132:SchT:=[(3,[(0,some [2]),(1,some [0,2]),(2,some [0,1]),(3,some [0,1,2]),(4,some [0,1,2,3]),(5,some [0,1,2,3,4,6,7,8,11,12,13,14,15,16,17]),(6,some [0,1,2,3,4,5,7,11,12,13,14,15,16,17]),(7,some [0,1,2,3,4,5,6,11,12,13,14,15,16,17]),(8,some [0,1,2,3,4,5,6,7,11,12,13,14,15,16,17]),(9,some [0,1,2,3,4,5,6,7,8,11,12,13,14,15,16,17]),(11,some [0,1,2,3,4,5,6,7,8,9,10,12,13,14,15]),(12,some [0,1,2,3,4,5,6,7,8,9,10,11,13]),(13,some [0,1,2,3,4,5,6,7,8,9,10,11,12]),(14,some [0,1,2,3,4,5,6,7,8,9,10,11,12,13]),(15,some [0,1,2,3,4,5,6,7,8,9,10,11,12,13,14]),(16,some [0,1,2,3,4,5,6,7,8,9,10,11,12,13,14,15]),(10,some [0,1,2,3,4,5,6,7,8,9,11,12,13,14,15,16,17]),(17,none),(18,none),(19,some [0,1,2,3,4,5,6,7,8,9,10,11,12,13,14,15,16,17,18])]),(5,[(0,some [1,2,3,6,7,8,9,10,11]),(1,some [0,2,6,7,8,9,10,11]),(2,some [0,1,6,7,8,9,10,11]),(3,some [0,1,2,6,7,8,9,10,11]),(4,some [0,1,2,3,6,7,8,9,10,11]),(6,some [0,1,2,3,4,5,7,8,9]),(7,some [0,1,2,3,4,5,6,8]),(8,some [0,1,2,3,4,5,6,7]),(9,some [0,1,2,3,4,5,6,7,8]),(10,some [0,1,2,3,4,5,6,7,8,9]),(5,some [0,1,2,3,4,6,7,8,9,10,11]),(11,none),(12,none),(13,some [0,1,2,3,4,5,6,7,8,9,10,11,12])]),(6,[(0,some [1,2,3,4,5,6,7,8,9,10,11,12,13,14,15,16,17,18,19]),(1,some [0,2,4,5,6,7,8,9,10,11,12,13,14,15,16,17,18,19]),(2,some [0,1,4,5,6,7,8,9,10,11,12,13,14,15,16,17,18,19]),(3,some [0,1,2,4,5,6,7,8,9,10,11,12,13,14,15,16,17,18,19]),(4,some [0,1,2,3,5,6,7,8,9,10,11,12,13,14,15,16,17,18,19,20,21]),(5,some [0,1,2,3,4,6,8,9,10,11,12,13,14,15,16,17,18,19,20,21]),(6,some [0,1,2,3,4,5,8,9,10,11,12,13,14,15,16,17,18,19,20,21]),(7,some [0,1,2,3,4,5,6,8,9,10,11,12,13,14,15,16,17,18,19,20,21]),(8,some [0,1,2,3,4,5,6,7,9,10,11,14,15,16,17,18,19]),(9,some [0,1,2,3,4,5,6,7,8,10,14,15,16,17,18,19]),(10,some [0,1,2,3,4,5,6,7,8,9,14,15,16,17,18,19]),(11,some [0,1,2,3,4,5,6,7,8,9,10,14,15,16,17,18,19]),(12,some [0,1,2,3,4,5,6,7,8,9,10,11,14,15,16,17,18,19]),(14,some [0,1,2,3,4,5,6,7,8,9,10,11,12,13,15,16,17]),(15,some [0,1,2,3,4,5,6,7,8,9,10,11,12,13,14,16]),(16,some [0,1,2,3,4,5,6,7,8,9,10,11,12,13,14,15]),(17,some [0,1,2,3,4,5,6,7,8,9,10,11,12,13,14,15,16]),(18,some [0,1,2,3,4,5,6,7,8,9,10,11,12,13,14,15,16,17]),(13,some [0,1,2,3,4,5,6,7,8,9,10,11,12,14,15,16,17,18,19]),(19,none),(20,some [0,1,2,3,4,5,6,7,8,9,10,11,12,13,14,15,16,17,18,19]),(21,none),(22,some [0,1,2,3,4,5,6,7,8,9,10,11,12,13,14,15,16,17,18,19,20,21]),(23,none)])]
theorem B132_ok:regsO B132 Tryz.f132.body=true:=by kernel_rfl
theorem F132_ok:FOk Tryz.prog 132 (FI.of Tryz.f132 T132 B132):=FOk.of Tryz.func132 rfl T132_ok B132_ok Tryz.call132
def T133:Tab:=[(3,ti3),(5,ti5),(30,ti30),(144,ti144)]
theorem T133_ok:TabOk Tryz.prog T133:=.cons tk3 <| .cons tk5 <| .cons tk30 <| .cons tk144 <| .nil mixed
def B133:SchT:=[]
theorem B133_ok:regsO B133 Tryz.f133.body=true:=by kernel_rfl
theorem F133_ok:FOk Tryz.prog 133 (FI.of Tryz.f133 T133 B133):=FOk.of Tryz.func133 rfl T133_ok B133_ok Tryz.call133
def T134:Tab:=[(3,ti3),(5,ti5),(30,ti30),(144,ti144)]
theorem T134_ok:TabOk Tryz.prog T134:=.cons tk3 <| .cons tk5 <| .cons tk30 <| .cons tk144 <| .nil mixed
def B134:SchT:=[]
theorem B134_ok:regsO B134 Tryz.f134.body=true:=by kernel_rfl
theorem F134_ok:FOk Tryz.prog 134 (FI.of Tryz.f134 T134 B134):=FOk.of Tryz.func134 rfl T134_ok B134_ok Tryz.call134
def T135:Tab:=[(3,ti3),(4,ti4),(135,ti135),(148,ti148)]
theorem T135_ok:TabOk Tryz.prog T135:=.cons tk3 <| .cons tk4 <| .cons tk135 <| .cons tk148 <| .nil mixed
def B135:SchT:=[(3,[(0,some [2]),(1,some [0,2]),(2,some [0,1]),(3,some [0,1,2]),(4,some [0,1,2,3]),(5,some [0,1,2,3,4,6,7,8,9,10,11,12,13,14,15,16,17,18]),(6,some [0,1,2,3,4,5,7,8,9,12,13,14,15,16,17,18]),(7,some [0,1,2,3,4,5,6,8,12,13,14,15,16,17,18]),(8,some [0,1,2,3,4,5,6,7,12,13,14,15,16,17,18]),(9,some [0,1,2,3,4,5,6,7,8,12,13,14,15,16,17,18]),(10,some [0,1,2,3,4,5,6,7,8,9,12,13,14,15,16,17,18]),(12,some [0,1,2,3,4,5,6,7,8,9,10,11,13,14,15,16]),(13,some [0,1,2,3,4,5,6,7,8,9,10,11,12,14]),(14,some [0,1,2,3,4,5,6,7,8,9,10,11,12,13]),(15,some [0,1,2,3,4,5,6,7,8,9,10,11,12,13,14]),(16,some [0,1,2,3,4,5,6,7,8,9,10,11,12,13,14,15]),(17,some [0,1,2,3,4,5,6,7,8,9,10,11,12,13,14,15,16]),(11,some [0,1,2,3,4,5,6,7,8,9,10,12,13,14,15,16,17,18]),(18,none),(19,none),(20,some [0,1,2,3,4,5,6,7,8,9,10,11,12,13,14,15,16,17,18,19]),(21,some [0,1,2,3,4,5,6,7,8,9,10,11,12,13,14,15,16,17,18,19,20])]),(5,[(0,some [1,2,3,4,5,6,7,8,9,10,11,12]),(1,some [0,2,3,4,7,8,9,10,11,12]),(2,some [0,1,3,7,8,9,10,11,12]),(3,some [0,1,2,7,8,9,10,11,12]),(4,some [0,1,2,3,7,8,9,10,11,12]),(5,some [0,1,2,3,4,7,8,9,10,11,12]),(7,some [0,1,2,3,4,5,6,8,9,10]),(8,some [0,1,2,3,4,5,6,7,9]),(9,some [0,1,2,3,4,5,6,7,8]),(10,some [0,1,2,3,4,5,6,7,8,9]),(11,some [0,1,2,3,4,5,6,7,8,9,10]),(6,some [0,1,2,3,4,5,7,8,9,10,11,12]),(12,none),(13,none),(14,some [0,1,2,3,4,5,6,7,8,9,10,11,12,13]),(15,some [0,1,2,3,4,5,6,7,8,9,10,11,12,13,14])]),(6,[(0,some [1,2,3,4,5,6,7,8,9,10,11,12,13,14,15,16,17,18,19]),(1,some [0,2,4,5,6,7,8,9,10,11,12,13,14,15,16,17,18,19]),(2,some [0,1,4,5,6,7,8,9,10,11,12,13,14,15,16,17,18,19]),(3,some [0,1,2,4,5,6,7,8,9,10,11,12,13,14,15,16,17,18,19]),(4,some [0,1,2,3,5,6,7,8,9,10,11,12,13,14,15,16,17,18,19,20,21]),(5,some [0,1,2,3,4,6,8,9,10,11,12,13,14,15,16,17,18,19,20,21]),(6,some [0,1,2,3,4,5,8,9,10,11,12,13,14,15,16,17,18,19,20,21]),(7,some [0,1,2,3,4,5,6,8,9,10,11,12,13,14,15,16,17,18,19,20,21]),(8,some [0,1,2,3,4,5,6,7,9,10,11,14,15,16,17,18,19]),(9,some [0,1,2,3,4,5,6,7,8,10,14,15,16,17,18,19]),(10,some [0,1,2,3,4,5,6,7,8,9,14,15,16,17,18,19]),(11,some [0,1,2,3,4,5,6,7,8,9,10,14,15,16,17,18,19]),(12,some [0,1,2,3,4,5,6,7,8,9,10,11,14,15,16,17,18,19]),(14,some [0,1,2,3,4,5,6,7,8,9,10,11,12,13,15,16,17]),(15,some [0,1,2,3,4,5,6,7,8,9,10,11,12,13,14,16]),(16,some [0,1,2,3,4,5,6,7,8,9,10,11,12,13,14,15]),(17,some [0,1,2,3,4,5,6,7,8,9,10,11,12,13,14,15,16]),(18,some [0,1,2,3,4,5,6,7,8,9,10,11,12,13,14,15,16,17]),(13,some [0,1,2,3,4,5,6,7,8,9,10,11,12,14,15,16,17,18,19]),(19,none),(20,some [0,1,2,3,4,5,6,7,8,9,10,11,12,13,14,15,16,17,18,19]),(21,none),(22,some [0,1,2,3,4,5,6,7,8,9,10,11,12,13,14,15,16,17,18,19,20,21]),(23,none)])]
theorem B135_ok:regsO B135 Tryz.f135.body=true:=by kernel_rfl
theorem F135_ok:FOk Tryz.prog 135 (FI.of Tryz.f135 T135 B135):=FOk.of Tryz.func135 rfl T135_ok B135_ok Tryz.call135
def T136:Tab:=[(3,ti3),(135,ti135),(144,ti144),(148,ti148),(155,ti155)]
theorem T136_ok:TabOk Tryz.prog T136:=.cons tk3 <| .cons tk135 <| .cons tk144 <| .cons tk148 <| .cons tk155 <| .nil mixed
def B136:SchT:=[]
theorem B136_ok:regsO B136 Tryz.f136.body=true:=by kernel_rfl
theorem F136_ok:FOk Tryz.prog 136 (FI.of Tryz.f136 T136 B136):=FOk.of Tryz.func136 rfl T136_ok B136_ok Tryz.call136
def T137:Tab:=[(3,ti3),(135,ti135),(144,ti144),(148,ti148),(155,ti155)]
theorem T137_ok:TabOk Tryz.prog T137:=.cons tk3 <| .cons tk135 <| .cons tk144 <| .cons tk148 <| .cons tk155 <| .nil mixed
def B137:SchT:=[]
theorem B137_ok:regsO B137 Tryz.f137.body=true:=by kernel_rfl
theorem F137_ok:FOk Tryz.prog 137 (FI.of Tryz.f137 T137 B137):=FOk.of Tryz.func137 rfl T137_ok B137_ok Tryz.call137
def T138:Tab:=[(3,ti3),(5,ti5),(30,ti30)]
theorem T138_ok:TabOk Tryz.prog T138:=.cons tk3 <| .cons tk5 <| .cons tk30 <| .nil mixed
def B138:SchT:=[(1,[(0,some [1,4,5,6,7]),(1,some [0,4,5,6,7]),(2,some [0,1,4,5,6,7]),(4,some [0,1,2,3,5]),(5,some [0,1,2,3,4]),(6,some [0,1,2,3,4,5]),(3,some [0,1,2,4,5,6,7]),(7,none),(8,none)])]
theorem B138_ok:regsO B138 Tryz.f138.body=true:=by kernel_rfl
theorem F138_ok:FOk Tryz.prog 138 (FI.of Tryz.f138 T138 B138):=FOk.of Tryz.func138 rfl T138_ok B138_ok Tryz.call138
def T139:Tab:=[(3,ti3),(135,ti135),(148,ti148)]
theorem T139_ok:TabOk Tryz.prog T139:=.cons tk3 <| .cons tk135 <| .cons tk148 <| .nil mixed
def B139:SchT:=[(1,[(0,some [1,2,3,4,5,6,7,8]),(1,some [0,2,5,6,7,8]),(2,some [0,1,5,6,7,8]),(3,some [0,1,2,5,6,7,8]),(5,some [0,1,2,3,4,6]),(6,some [0,1,2,3,4,5]),(7,some [0,1,2,3,4,5,6]),(4,some [0,1,2,3,5,6,7,8]),(8,none),(9,none),(10,some [0,1,2,3,4,5,6,7,8,9])])]
theorem B139_ok:regsO B139 Tryz.f139.body=true:=by kernel_rfl
theorem F139_ok:FOk Tryz.prog 139 (FI.of Tryz.f139 T139 B139):=FOk.of Tryz.func139 rfl T139_ok B139_ok Tryz.call139
noncomputable def FALL:FT:=[(21,FI.of Tryz.f21 T21 B21),(22,FI.of Tryz.f22 T22 B22),(26,FI.of Tryz.f26 T26 B26),(28,FI.of Tryz.f28 T28 B28),(44,FI.of Tryz.f44 T44 B44),(45,FI.of Tryz.f45 T45 B45),(46,FI.of Tryz.f46 T46 B46),(47,FI.of Tryz.f47 T47 B47),(56,FI.of Tryz.f56 T56 B56),(58,FI.of Tryz.f58 T58 B58),(60,FI.of Tryz.f60 T60 B60),(61,FI.of Tryz.f61 T61 B61),(62,FI.of Tryz.f62 T62 B62),(63,FI.of Tryz.f63 T63 B63),(77,FI.of Tryz.f77 T77 B77),(78,FI.of Tryz.f78 T78 B78),(79,FI.of Tryz.f79 T79 B79),(80,FI.of Tryz.f80 T80 B80),(89,FI.of Tryz.f89 T89 B89),(90,FI.of Tryz.f90 T90 B90),(92,FI.of Tryz.f92 T92 B92),(93,FI.of Tryz.f93 T93 B93),(100,FI.of Tryz.f100 T100 B100),(103,FI.of Tryz.f103 T103 B103),(104,FI.of Tryz.f104 T104 B104),(105,FI.of Tryz.f105 T105 B105),(106,FI.of Tryz.f106 T106 B106),(107,FI.of Tryz.f107 T107 B107),(111,FI.of Tryz.f111 T111 B111),(112,FI.of Tryz.f112 T112 B112),(113,FI.of Tryz.f113 T113 B113),(114,FI.of Tryz.f114 T114 B114),(115,FI.of Tryz.f115 T115 B115),(116,FI.of Tryz.f116 T116 B116),(117,FI.of Tryz.f117 T117 B117),(118,FI.of Tryz.f118 T118 B118),(119,FI.of Tryz.f119 T119 B119),(120,FI.of Tryz.f120 T120 B120),(121,FI.of Tryz.f121 T121 B121),(122,FI.of Tryz.f122 T122 B122),(124,FI.of Tryz.f124 T124 B124),(125,FI.of Tryz.f125 T125 B125),(126,FI.of Tryz.f126 T126 B126),(127,FI.of Tryz.f127 T127 B127),(128,FI.of Tryz.f128 T128 B128),(129,FI.of Tryz.f129 T129 B129),(130,FI.of Tryz.f130 T130 B130),(131,FI.of Tryz.f131 T131 B131),(132,FI.of Tryz.f132 T132 B132),(133,FI.of Tryz.f133 T133 B133),(134,FI.of Tryz.f134 T134 B134),(135,FI.of Tryz.f135 T135 B135),(136,FI.of Tryz.f136 T136 B136),(137,FI.of Tryz.f137 T137 B137),(138,FI.of Tryz.f138 T138 B138),(139,FI.of Tryz.f139 T139 B139)]
theorem FALL_ok:FTok Tryz.prog FALL:=.cons F21_ok <| .cons F22_ok <| .cons F26_ok <| .cons F28_ok <| .cons F44_ok <| .cons F45_ok <| .cons F46_ok <| .cons F47_ok <| .cons F56_ok <| .cons F58_ok <| .cons F60_ok <| .cons F61_ok <| .cons F62_ok <| .cons F63_ok <| .cons F77_ok <| .cons F78_ok <| .cons F79_ok <| .cons F80_ok <| .cons F89_ok <| .cons F90_ok <| .cons F92_ok <| .cons F93_ok <| .cons F100_ok <| .cons F103_ok <| .cons F104_ok <| .cons F105_ok <| .cons F106_ok <| .cons F107_ok <| .cons F111_ok <| .cons F112_ok <| .cons F113_ok <| .cons F114_ok <| .cons F115_ok <| .cons F116_ok <| .cons F117_ok <| .cons F118_ok <| .cons F119_ok <| .cons F120_ok <| .cons F121_ok <| .cons F122_ok <| .cons F124_ok <| .cons F125_ok <| .cons F126_ok <| .cons F127_ok <| .cons F128_ok <| .cons F129_ok <| .cons F130_ok <| .cons F131_ok <| .cons F132_ok <| .cons F133_ok <| .cons F134_ok <| .cons F135_ok <| .cons F136_ok <| .cons F137_ok <| .cons F138_ok <| .cons F139_ok .nil
end Go.Proofs.YthpbefahaghbjaaGreat
