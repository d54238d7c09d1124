/- The seat's types, as the symbolic executor wants them. Written by wip/mktab.py. -/
import Derived.Test.YthaffebapmkppaaProg
import Derived.Test.YthaffebapmkppaaEC

namespace Go.Proofs.Ythaffebapmkppaa
open Go.Eng

theorem mixed : Try.prog.follows .mixedOrders = true := by kernel_rfl
def ti3 : TI := ⟨false, 1, 8, [.int .i64 (.lit 0)], .int .i64, none⟩
theorem tk3 : TI.of Try.prog 3 = some ti3 := by kernel_rfl
def ti4 : TI := ⟨false, 1, 1, [.bool (.lit false)], .bool, none⟩
theorem tk4 : TI.of Try.prog 4 = some ti4 := by kernel_rfl
def ti5 : TI := ⟨false, 1, 1, [.int .u8 (.lit 0)], .int .u8, none⟩
theorem tk5 : TI.of Try.prog 5 = some ti5 := by kernel_rfl
def ti9 : TI := ⟨false, 1, 16, [.raw (Value.string { data := #[] })], .string, none⟩
theorem tk9 : TI.of Try.prog 9 = some ti9 := by kernel_rfl
def ti22 : TI := ⟨false, 1, 24, [.raw (Value.slice none 0 0)], .slice 5, none⟩
theorem tk22 : TI.of Try.prog 22 = some ti22 := by kernel_rfl
def ti26 : TI := ⟨true, 256, 2048, rep 256 ([.int .i64 (.lit 0)]), .array 256 3, none⟩
theorem tk26 : TI.of Try.prog 26 = some ti26 := by kernel_rfl
def ti27 : TI := ⟨false, 1, 24, [.raw (Value.slice none 0 0)], .slice 52, none⟩
theorem tk27 : TI.of Try.prog 27 = some ti27 := by kernel_rfl
def ti33 : TI := ⟨false, 1, 8, [.int .u64 (.lit 0)], .int .u64, none⟩
theorem tk33 : TI.of Try.prog 33 = some ti33 := by kernel_rfl
def ti35 : TI := ⟨true, 3, 56, [.int .u64 (.lit 0), .raw (Value.slice none 0 0), .raw (Value.slice none 0 0)], .struct [(0, 1, false), (1, 1, false), (2, 1, false)], none⟩
theorem tk35 : TI.of Try.prog 35 = some ti35 := by kernel_rfl
def ti40 : TI := ⟨false, 1, 8, [.int .i64 (.lit 0)], .int .i64, none⟩
theorem tk40 : TI.of Try.prog 40 = some ti40 := by kernel_rfl
def ti52 : TI := ⟨true, 2, 16, [.int .u64 (.lit 0), .int .u8 (.lit 0)], .struct [(0, 1, false), (1, 1, false)], some [true, true]⟩
theorem tk52 : TI.of Try.prog 52 = some ti52 := by kernel_rfl
def ti54 : TI := ⟨false, 1, 8, [.raw (Value.nilFunc)], .other, none⟩
theorem tk54 : TI.of Try.prog 54 = some ti54 := by kernel_rfl
def ti57 : TI := ⟨false, 1, 8, [.raw (Value.nilFunc)], .other, none⟩
theorem tk57 : TI.of Try.prog 57 = some ti57 := by kernel_rfl
def ti58 : TI := ⟨true, 256, 256, rep 256 ([.bool (.lit false)]), .array 256 4, none⟩
theorem tk58 : TI.of Try.prog 58 = some ti58 := by kernel_rfl
def ti64 : TI := ⟨false, 1, 24, [.raw (Value.slice none 0 0)], .slice 22, none⟩
theorem tk64 : TI.of Try.prog 64 = some ti64 := by kernel_rfl
def ti74 : TI := ⟨false, 1, 8, [.int .u64 (.lit 0)], .int .u64, none⟩
theorem tk74 : TI.of Try.prog 74 = some ti74 := by kernel_rfl
def ti87 : TI := ⟨false, 1, 8, [.int .i64 (.lit 0)], .int .i64, none⟩
theorem tk87 : TI.of Try.prog 87 = some ti87 := by kernel_rfl
def ti94 : TI := ⟨false, 1, 4, [.int .u32 (.lit 0)], .int .u32, none⟩
theorem tk94 : TI.of Try.prog 94 = some ti94 := by kernel_rfl
def ti100 : TI := ⟨false, 1, 24, [.raw (Value.slice none 0 0)], .slice 3, none⟩
theorem tk100 : TI.of Try.prog 100 = some ti100 := by kernel_rfl
def ti103 : TI := ⟨false, 1, 8, [.int .u64 (.lit 0)], .int .u64, none⟩
theorem tk103 : TI.of Try.prog 103 = some ti103 := by kernel_rfl
def ti107 : TI := ⟨false, 1, 8, [.raw (Value.pointer none)], .pointer, none⟩
theorem tk107 : TI.of Try.prog 107 = some ti107 := by kernel_rfl
def T2 : Tab := []
theorem T2_ok : TabOk Try.prog T2 := .nil mixed
def B2 : SchT := []
theorem B2_ok : regsO B2 Try.f2.body = true := by kernel_rfl
theorem F2_ok : FOk Try.prog 2 (FI.of Try.f2 T2 B2) := FOk.of Try.func2 rfl T2_ok B2_ok Try.call2
def T3 : Tab := [(3, ti3), (4, ti4), (5, ti5), (22, ti22)]
theorem T3_ok : TabOk Try.prog T3 := .cons tk3 <| .cons tk4 <| .cons tk5 <| .cons tk22 <| .nil mixed
def B3 : SchT := [(12, [(0, some []), (1, some [0]), (2, some [0, 1, 3, 6, 7, 8, 9]), (3, some [0, 1, 2, 6, 7, 8, 9]), (4, some [0, 1, 2, 3, 6, 7, 8, 9]), (6, some [0, 1, 2, 3, 4, 5, 7]), (7, some [0, 1, 2, 3, 4, 5, 6]), (8, some [0, 1, 2, 3, 4, 5, 6, 7]), (5, some [0, 1, 2, 3, 4, 6, 7, 8, 9]), (9, none), (10, some [0, 1, 2, 3, 4, 5, 6, 7, 8, 9]), (11, some [0, 1, 2, 3, 4, 5, 6, 7, 8, 9, 10]), (12, some [0, 1, 2, 3, 4, 5, 6, 7, 8, 9, 10, 11])]), (22, [(0, some []), (1, some [0]), (2, some [0, 1, 3, 6, 7, 8, 9]), (3, some [0, 1, 2, 6, 7, 8, 9]), (4, some [0, 1, 2, 3, 6, 7, 8, 9]), (6, some [0, 1, 2, 3, 4, 5, 7]), (7, some [0, 1, 2, 3, 4, 5, 6]), (8, some [0, 1, 2, 3, 4, 5, 6, 7]), (5, some [0, 1, 2, 3, 4, 6, 7, 8, 9]), (9, none), (10, some [0, 1, 2, 3, 4, 5, 6, 7, 8, 9]), (11, some [0, 1, 2, 3, 4, 5, 6, 7, 8, 9, 10]), (12, some [0, 1, 2, 3, 4, 5, 6, 7, 8, 9, 10, 11])])]
theorem B3_ok : regsO B3 Try.f3.body = true := by kernel_rfl
theorem F3_ok : FOk Try.prog 3 (FI.of Try.f3 T3 B3) := FOk.of Try.func3 rfl T3_ok B3_ok Try.call3
def T4 : Tab := [(3, ti3), (5, ti5), (9, ti9), (22, ti22), (26, ti26), (27, ti27), (52, ti52)]
theorem T4_ok : TabOk Try.prog T4 := .cons tk3 <| .cons tk5 <| .cons tk9 <| .cons tk22 <| .cons tk26 <| .cons tk27 <| .cons tk52 <| .nil mixed
def B4 : SchT := [(19, [(0, some [2]), (1, some [0, 2]), (2, some [0, 1]), (3, some [0, 1, 2]), (4, some [0, 1, 2, 3]), (5, some [0, 1, 2, 3, 4, 7, 8, 9, 10]), (6, some [0, 1, 2, 3, 4, 5, 7, 8, 9, 10]), (7, some [0, 1, 2, 3, 4, 5, 6, 8, 9]), (8, some [0, 1, 2, 3, 4, 5, 6, 7]), (9, some [0, 1, 2, 3, 4, 5, 6, 7, 8]), (10, some [0, 1, 2, 3, 4, 5, 6, 7, 8, 9]), (11, some [0, 1, 2, 3, 4, 5, 6, 7, 8, 9, 10]), (12, some [0, 1, 2, 3, 4, 5, 6, 7, 8, 9, 10, 11]), (13, some [0, 1, 2, 3, 4, 5, 6, 7, 8, 9, 10, 11, 12]), (14, some [0, 1, 2, 3, 4, 5, 6, 7, 8, 9, 10, 11, 12, 13, 15, 16, 19, 20]), (15, some [0, 1, 2, 3, 4, 5, 6, 7, 8, 9, 10, 11, 12, 13, 14, 19, 20]), (16, some [0, 1, 2, 3, 4, 5, 6, 7, 8, 9, 10, 11, 12, 13, 14, 15, 19, 20]), (17, some [0, 1, 2, 3, 4, 5, 6, 7, 8, 9, 10, 11, 12, 13, 14, 15, 16, 19, 20]), (18, some [0, 1, 2, 3, 4, 5, 6, 7, 8, 9, 10, 11, 12, 13, 14, 15, 16, 17, 19, 20]), (19, some [0, 1, 2, 3, 4, 5, 6, 7, 8, 9, 10, 11, 12, 13, 14, 15, 16, 17, 18]), (20, some [0, 1, 2, 3, 4, 5, 6, 7, 8, 9, 10, 11, 12, 13, 14, 15, 16, 17, 18, 19]), (21, some [0, 1, 2, 3, 4, 5, 6, 7, 8, 9, 10, 11, 12, 13, 14, 15, 16, 17, 18, 19, 20]), (22, some [0, 1, 2, 3, 4, 5, 6, 7, 8, 9, 10, 11, 12, 13, 14, 15, 16, 17, 18, 19, 20, 21]), (23, some [0, 1, 2, 3, 4, 5, 6, 7, 8, 9, 10, 11, 12, 13, 14, 15, 16, 17, 18, 19, 20, 21, 22]), (24, none), (25, some [0, 1, 2, 3, 4, 5, 6, 7, 8, 9, 10, 11, 12, 13, 14, 15, 16, 17, 18, 19, 20, 21, 22, 23, 24]), (26, some [0, 1, 2, 3, 4, 5, 6, 7, 8, 9, 10, 11, 12, 13, 14, 15, 16, 17, 18, 19, 20, 21, 22, 23, 24, 25])])]
theorem B4_ok : regsO B4 Try.f4.body = true := by kernel_rfl
theorem F4_ok : FOk Try.prog 4 (FI.of Try.f4 T4 B4) := FOk.of Try.func4 rfl T4_ok B4_ok Try.call4
def T5 : Tab := [(3, ti3), (5, ti5), (9, ti9), (22, ti22), (27, ti27), (52, ti52)]
theorem T5_ok : TabOk Try.prog T5 := .cons tk3 <| .cons tk5 <| .cons tk9 <| .cons tk22 <| .cons tk27 <| .cons tk52 <| .nil mixed
def B5 : SchT := [(4, [(1, some [0, 2, 5, 6, 7]), (2, some [0, 1, 5, 6, 7]), (3, some [0, 1, 2, 5, 6, 7]), (5, some [0, 1, 2, 3, 4, 6]), (6, some [0, 1, 2, 3, 4, 5]), (7, some [0, 1, 2, 3, 4, 5, 6]), (0, none), (4, none), (8, none), (9, some [0, 1, 2, 3, 4, 5, 6, 7, 8])]), (5, [(0, some [2]), (2, some [0, 1]), (1, none), (3, none), (4, none), (5, some [0, 1, 2, 3, 4]), (6, some [0, 1, 2, 3, 4, 5, 7, 10, 11]), (7, some [0, 1, 2, 3, 4, 5, 6, 10, 11]), (10, some [0, 1, 2, 3, 4, 5, 6, 7, 8, 9, 11]), (11, some [0, 1, 2, 3, 4, 5, 6, 7, 8, 9, 10]), (8, none), (9, some [0, 1, 2, 3, 4, 5, 6, 7, 8, 10, 11, 12, 13]), (12, none), (13, some [0, 1, 2, 3, 4, 5, 6, 7, 8, 9, 10, 11, 12]), (14, some [0, 1, 2, 3, 4, 5, 6, 7, 8, 9, 10, 11, 12, 13]), (15, some [0, 1, 2, 3, 4, 5, 6, 7, 8, 9, 10, 11, 12, 13, 14]), (16, some [0, 1, 2, 3, 4, 5, 6, 7, 8, 9, 10, 11, 12, 13, 14, 15]), (17, none), (18, some [0, 1, 2, 3, 4, 5, 6, 7, 8, 9, 10, 11, 12, 13, 14, 15, 16, 17]), (19, some [0, 1, 2, 3, 4, 5, 6, 7, 8, 9, 10, 11, 12, 13, 14, 15, 16, 17, 18])])]
theorem B5_ok : regsO B5 Try.f5.body = true := by kernel_rfl
theorem F5_ok : FOk Try.prog 5 (FI.of Try.f5 T5 B5) := FOk.of Try.func5 rfl T5_ok B5_ok Try.call5
def T6 : Tab := [(3, ti3), (4, ti4), (5, ti5), (9, ti9), (22, ti22), (27, ti27), (52, ti52)]
theorem T6_ok : TabOk Try.prog T6 := .cons tk3 <| .cons tk4 <| .cons tk5 <| .cons tk9 <| .cons tk22 <| .cons tk27 <| .cons tk52 <| .nil mixed
def B6 : SchT := [(4, [(0, some [1]), (1, some [0]), (2, none), (3, some [0, 1, 2]), (4, some [0, 1, 2, 3, 5, 6, 9, 10, 11]), (5, some [0, 1, 2, 3, 4, 6, 9, 10, 11]), (6, some [0, 1, 2, 3, 4, 5, 9, 10, 11]), (9, some [0, 1, 2, 3, 4, 5, 6, 7, 8, 10, 11]), (10, some [0, 1, 2, 3, 4, 5, 6, 7, 8, 9, 11]), (11, some [0, 1, 2, 3, 4, 5, 6, 7, 8, 9, 10]), (7, none), (8, some [0, 1, 2, 3, 4, 5, 6, 7, 9, 10, 11, 12, 13]), (12, none), (13, some [0, 1, 2, 3, 4, 5, 6, 7, 8, 9, 10, 11, 12]), (14, some [0, 1, 2, 3, 4, 5, 6, 7, 8, 9, 10, 11, 12, 13]), (15, some [0, 1, 2, 3, 4, 5, 6, 7, 8, 9, 10, 11, 12, 13, 14]), (16, some [0, 1, 2, 3, 4, 5, 6, 7, 8, 9, 10, 11, 12, 13, 14, 15]), (17, some [0, 1, 2, 3, 4, 5, 6, 7, 8, 9, 10, 11, 12, 13, 14, 15, 16, 18, 21, 22]), (18, some [0, 1, 2, 3, 4, 5, 6, 7, 8, 9, 10, 11, 12, 13, 14, 15, 16, 17, 21, 22]), (21, some [0, 1, 2, 3, 4, 5, 6, 7, 8, 9, 10, 11, 12, 13, 14, 15, 16, 17, 18, 19, 20, 22]), (22, some [0, 1, 2, 3, 4, 5, 6, 7, 8, 9, 10, 11, 12, 13, 14, 15, 16, 17, 18, 19, 20, 21]), (19, none), (20, some [0, 1, 2, 3, 4, 5, 6, 7, 8, 9, 10, 11, 12, 13, 14, 15, 16, 17, 18, 19, 21, 22, 23, 24]), (23, none), (24, some [0, 1, 2, 3, 4, 5, 6, 7, 8, 9, 10, 11, 12, 13, 14, 15, 16, 17, 18, 19, 20, 21, 22, 23]), (25, some [0, 1, 2, 3, 4, 5, 6, 7, 8, 9, 10, 11, 12, 13, 14, 15, 16, 17, 18, 19, 20, 21, 22, 23, 24]), (26, some [0, 1, 2, 3, 4, 5, 6, 7, 8, 9, 10, 11, 12, 13, 14, 15, 16, 17, 18, 19, 20, 21, 22, 23, 24, 25]), (27, some [0, 1, 2, 3, 4, 5, 6, 7, 8, 9, 10, 11, 12, 13, 14, 15, 16, 17, 18, 19, 20, 21, 22, 23, 24, 25, 26]), (28, some [0, 1, 2, 3, 4, 5, 6, 7, 8, 9, 10, 11, 12, 13, 14, 15, 16, 17, 18, 19, 20, 21, 22, 23, 24, 25, 26, 27, 30]), (30, some [0, 1, 2, 3, 4, 5, 6, 7, 8, 9, 10, 11, 12, 13, 14, 15, 16, 17, 18, 19, 20, 21, 22, 23, 24, 25, 26, 27, 28, 29]), (29, none), (31, none), (32, some [0, 1, 2, 3, 4, 5, 6, 7, 8, 9, 10, 11, 12, 13, 14, 15, 16, 17, 18, 19, 20, 21, 22, 23, 24, 25, 26, 27, 28, 29, 30, 31]), (33, some [0, 1, 2, 3, 4, 5, 6, 7, 8, 9, 10, 11, 12, 13, 14, 15, 16, 17, 18, 19, 20, 21, 22, 23, 24, 25, 26, 27, 28, 29, 30, 31, 32]), (34, some [0, 1, 2, 3, 4, 5, 6, 7, 8, 9, 10, 11, 12, 13, 14, 15, 16, 17, 18, 19, 20, 21, 22, 23, 24, 25, 26, 27, 28, 29, 30, 31, 32, 33]), (35, none), (36, some [0, 1, 2, 3, 4, 5, 6, 7, 8, 9, 10, 11, 12, 13, 14, 15, 16, 17, 18, 19, 20, 21, 22, 23, 24, 25, 26, 27, 28, 29, 30, 31, 32, 33, 34, 35]), (37, some [0, 1, 2, 3, 4, 5, 6, 7, 8, 9, 10, 11, 12, 13, 14, 15, 16, 17, 18, 19, 20, 21, 22, 23, 24, 25, 26, 27, 28, 29, 30, 31, 32, 33, 34, 35, 36])])]
theorem B6_ok : regsO B6 Try.f6.body = true := by kernel_rfl
theorem F6_ok : FOk Try.prog 6 (FI.of Try.f6 T6 B6) := FOk.of Try.func6 rfl T6_ok B6_ok Try.call6
def T7 : Tab := [(4, ti4), (5, ti5), (9, ti9), (22, ti22), (33, ti33), (35, ti35)]
theorem T7_ok : TabOk Try.prog T7 := .cons tk4 <| .cons tk5 <| .cons tk9 <| .cons tk22 <| .cons tk33 <| .cons tk35 <| .nil mixed
def B7 : SchT := [(3, [(0, some [2]), (2, some [0, 1]), (1, none), (3, none), (4, some [0, 1, 2, 3]), (5, some [0, 1, 2, 3, 4]), (8, some [0, 1, 2, 3, 4, 5, 6, 7]), (6, some [0, 1, 2, 3, 4, 5, 8, 9, 10, 11]), (9, some [0, 1, 2, 3, 4, 5, 6, 7, 8]), (10, some [0, 1, 2, 3, 4, 5, 6, 7, 8, 9]), (11, some [0, 1, 2, 3, 4, 5, 6, 7, 8, 9, 10]), (7, none), (12, some [0, 1, 2, 3, 4, 5, 6, 7, 8, 9, 10, 11]), (13, some [0, 1, 2, 3, 4, 5, 6, 7, 8, 9, 10, 11, 12]), (14, some [0, 1, 2, 3, 4, 5, 6, 7, 8, 9, 10, 11, 12, 13]), (16, some [0, 1, 2, 3, 4, 5, 6, 7, 8, 9, 10, 11, 12, 13, 14, 15, 17, 19, 20, 21]), (17, some [0, 1, 2, 3, 4, 5, 6, 7, 8, 9, 10, 11, 12, 13, 14, 15, 16, 19, 20, 21]), (20, some [0, 1, 2, 3, 4, 5, 6, 7, 8, 9, 10, 11, 12, 13, 14, 15, 16, 17, 18, 19, 21]), (21, some [0, 1, 2, 3, 4, 5, 6, 7, 8, 9, 10, 11, 12, 13, 14, 15, 16, 17, 18, 19, 20]), (15, some [0, 1, 2, 3, 4, 5, 6, 7, 8, 9, 10, 11, 12, 13, 14, 16, 17, 19, 20, 21]), (19, some [0, 1, 2, 3, 4, 5, 6, 7, 8, 9, 10, 11, 12, 13, 14, 15, 16, 17, 18, 20, 21]), (18, none), (22, none), (23, some [0, 1, 2, 3, 4, 5, 6, 7, 8, 9, 10, 11, 12, 13, 14, 15, 16, 17, 18, 19, 20, 21, 22]), (24, some [0, 1, 2, 3, 4, 5, 6, 7, 8, 9, 10, 11, 12, 13, 14, 15, 16, 17, 18, 19, 20, 21, 22, 23]), (25, some [0, 1, 2, 3, 4, 5, 6, 7, 8, 9, 10, 11, 12, 13, 14, 15, 16, 17, 18, 19, 20, 21, 22, 23, 24]), (27, some [0, 1, 2, 3, 4, 5, 6, 7, 8, 9, 10, 11, 12, 13, 14, 15, 16, 17, 18, 19, 20, 21, 22, 23, 24, 25, 26, 28, 30, 31, 32]), (28, some [0, 1, 2, 3, 4, 5, 6, 7, 8, 9, 10, 11, 12, 13, 14, 15, 16, 17, 18, 19, 20, 21, 22, 23, 24, 25, 26, 27, 30, 31, 32]), (31, some [0, 1, 2, 3, 4, 5, 6, 7, 8, 9, 10, 11, 12, 13, 14, 15, 16, 17, 18, 19, 20, 21, 22, 23, 24, 25, 26, 27, 28, 29, 30, 32]), (32, some [0, 1, 2, 3, 4, 5, 6, 7, 8, 9, 10, 11, 12, 13, 14, 15, 16, 17, 18, 19, 20, 21, 22, 23, 24, 25, 26, 27, 28, 29, 30, 31]), (26, some [0, 1, 2, 3, 4, 5, 6, 7, 8, 9, 10, 11, 12, 13, 14, 15, 16, 17, 18, 19, 20, 21, 22, 23, 24, 25, 27, 28, 30, 31, 32]), (30, some [0, 1, 2, 3, 4, 5, 6, 7, 8, 9, 10, 11, 12, 13, 14, 15, 16, 17, 18, 19, 20, 21, 22, 23, 24, 25, 26, 27, 28, 29, 31, 32]), (29, none), (33, none), (34, some [0, 1, 2, 3, 4, 5, 6, 7, 8, 9, 10, 11, 12, 13, 14, 15, 16, 17, 18, 19, 20, 21, 22, 23, 24, 25, 26, 27, 28, 29, 30, 31, 32, 33]), (35, some [0, 1, 2, 3, 4, 5, 6, 7, 8, 9, 10, 11, 12, 13, 14, 15, 16, 17, 18, 19, 20, 21, 22, 23, 24, 25, 26, 27, 28, 29, 30, 31, 32, 33, 34]), (36, some [0, 1, 2, 3, 4, 5, 6, 7, 8, 9, 10, 11, 12, 13, 14, 15, 16, 17, 18, 19, 20, 21, 22, 23, 24, 25, 26, 27, 28, 29, 30, 31, 32, 33, 34, 35]), (38, some [0, 1, 2, 3, 4, 5, 6, 7, 8, 9, 10, 11, 12, 13, 14, 15, 16, 17, 18, 19, 20, 21, 22, 23, 24, 25, 26, 27, 28, 29, 30, 31, 32, 33, 34, 35, 36, 37, 41, 42]), (42, some [0, 1, 2, 3, 4, 5, 6, 7, 8, 9, 10, 11, 12, 13, 14, 15, 16, 17, 18, 19, 20, 21, 22, 23, 24, 25, 26, 27, 28, 29, 30, 31, 32, 33, 34, 35, 36, 37, 38, 39, 40, 41]), (37, some [0, 1, 2, 3, 4, 5, 6, 7, 8, 9, 10, 11, 12, 13, 14, 15, 16, 17, 18, 19, 20, 21, 22, 23, 24, 25, 26, 27, 28, 29, 30, 31, 32, 33, 34, 35, 36, 38, 41, 42]), (41, some [0, 1, 2, 3, 4, 5, 6, 7, 8, 9, 10, 11, 12, 13, 14, 15, 16, 17, 18, 19, 20, 21, 22, 23, 24, 25, 26, 27, 28, 29, 30, 31, 32, 33, 34, 35, 36, 37, 38, 39, 40, 42]), (39, none), (40, some [0, 1, 2, 3, 4, 5, 6, 7, 8, 9, 10, 11, 12, 13, 14, 15, 16, 17, 18, 19, 20, 21, 22, 23, 24, 25, 26, 27, 28, 29, 30, 31, 32, 33, 34, 35, 36, 37, 38, 39, 41, 42, 43, 44]), (43, none), (44, some [0, 1, 2, 3, 4, 5, 6, 7, 8, 9, 10, 11, 12, 13, 14, 15, 16, 17, 18, 19, 20, 21, 22, 23, 24, 25, 26, 27, 28, 29, 30, 31, 32, 33, 34, 35, 36, 37, 38, 39, 40, 41, 42, 43]), (45, some [0, 1, 2, 3, 4, 5, 6, 7, 8, 9, 10, 11, 12, 13, 14, 15, 16, 17, 18, 19, 20, 21, 22, 23, 24, 25, 26, 27, 28, 29, 30, 31, 32, 33, 34, 35, 36, 37, 38, 39, 40, 41, 42, 43, 44]), (46, some [0, 1, 2, 3, 4, 5, 6, 7, 8, 9, 10, 11, 12, 13, 14, 15, 16, 17, 18, 19, 20, 21, 22, 23, 24, 25, 26, 27, 28, 29, 30, 31, 32, 33, 34, 35, 36, 37, 38, 39, 40, 41, 42, 43, 44, 45]), (47, some [0, 1, 2, 3, 4, 5, 6, 7, 8, 9, 10, 11, 12, 13, 14, 15, 16, 17, 18, 19, 20, 21, 22, 23, 24, 25, 26, 27, 28, 29, 30, 31, 32, 33, 34, 35, 36, 37, 38, 39, 40, 41, 42, 43, 44, 45, 46]), (48, none), (49, some [0, 1, 2, 3, 4, 5, 6, 7, 8, 9, 10, 11, 12, 13, 14, 15, 16, 17, 18, 19, 20, 21, 22, 23, 24, 25, 26, 27, 28, 29, 30, 31, 32, 33, 34, 35, 36, 37, 38, 39, 40, 41, 42, 43, 44, 45, 46, 47, 48]), (50, some [0, 1, 2, 3, 4, 5, 6, 7, 8, 9, 10, 11, 12, 13, 14, 15, 16, 17, 18, 19, 20, 21, 22, 23, 24, 25, 26, 27, 28, 29, 30, 31, 32, 33, 34, 35, 36, 37, 38, 39, 40, 41, 42, 43, 44, 45, 46, 47, 48, 49])])]
theorem B7_ok : regsO B7 Try.f7.body = true := by kernel_rfl
theorem F7_ok : FOk Try.prog 7 (FI.of Try.f7 T7 B7) := FOk.of Try.func7 rfl T7_ok B7_ok Try.call7
def T8 : Tab := [(4, ti4), (5, ti5), (33, ti33), (35, ti35)]
theorem T8_ok : TabOk Try.prog T8 := .cons tk4 <| .cons tk5 <| .cons tk33 <| .cons tk35 <| .nil mixed
def B8 : SchT := []
theorem B8_ok : regsO B8 Try.f8.body = true := by kernel_rfl
theorem F8_ok : FOk Try.prog 8 (FI.of Try.f8 T8 B8) := FOk.of Try.func8 rfl T8_ok B8_ok Try.call8
def T9 : Tab := [(4, ti4), (5, ti5), (33, ti33), (35, ti35), (40, ti40)]
theorem T9_ok : TabOk Try.prog T9 := .cons tk4 <| .cons tk5 <| .cons tk33 <| .cons tk35 <| .cons tk40 <| .nil mixed
def B9 : SchT := []
theorem B9_ok : regsO B9 Try.f9.body = true := by kernel_rfl
theorem F9_ok : FOk Try.prog 9 (FI.of Try.f9 T9 B9) := FOk.of Try.func9 rfl T9_ok B9_ok Try.call9
def T10 : Tab := [(3, ti3), (5, ti5), (35, ti35), (40, ti40)]
theorem T10_ok : TabOk Try.prog T10 := .cons tk3 <| .cons tk5 <| .cons tk35 <| .cons tk40 <| .nil mixed
def B10 : SchT := []
theorem B10_ok : regsO B10 Try.f10.body = true := by kernel_rfl
theorem F10_ok : FOk Try.prog 10 (FI.of Try.f10 T10 B10) := FOk.of Try.func10 rfl T10_ok B10_ok Try.call10
def T11 : Tab := [(3, ti3), (5, ti5), (22, ti22), (27, ti27), (52, ti52)]
theorem T11_ok : TabOk Try.prog T11 := .cons tk3 <| .cons tk5 <| .cons tk22 <| .cons tk27 <| .cons tk52 <| .nil mixed
def B11 : SchT := []
theorem B11_ok : regsO B11 Try.f11.body = true := by kernel_rfl
theorem F11_ok : FOk Try.prog 11 (FI.of Try.f11 T11 B11) := FOk.of Try.func11 rfl T11_ok B11_ok Try.call11
def T12 : Tab := [(3, ti3), (5, ti5), (22, ti22), (27, ti27), (52, ti52)]
theorem T12_ok : TabOk Try.prog T12 := .cons tk3 <| .cons tk5 <| .cons tk22 <| .cons tk27 <| .cons tk52 <| .nil mixed
def B12 : SchT := []
theorem B12_ok : regsO B12 Try.f12.body = true := by kernel_rfl
theorem F12_ok : FOk Try.prog 12 (FI.of Try.f12 T12 B12) := FOk.of Try.func12 rfl T12_ok B12_ok Try.call12
def T13 : Tab := [(3, ti3), (5, ti5), (22, ti22), (27, ti27), (52, ti52), (54, ti54)]
theorem T13_ok : TabOk Try.prog T13 := .cons tk3 <| .cons tk5 <| .cons tk22 <| .cons tk27 <| .cons tk52 <| .cons tk54 <| .nil mixed
def B13 : SchT := []
theorem B13_ok : regsO B13 Try.f13.body = true := by kernel_rfl
theorem F13_ok : FOk Try.prog 13 (FI.of Try.f13 T13 B13) := FOk.of Try.func13 rfl T13_ok B13_ok Try.call13
def T14 : Tab := [(3, ti3), (4, ti4), (5, ti5), (22, ti22), (27, ti27), (33, ti33), (52, ti52), (57, ti57), (58, ti58)]
theorem T14_ok : TabOk Try.prog T14 := .cons tk3 <| .cons tk4 <| .cons tk5 <| .cons tk22 <| .cons tk27 <| .cons tk33 <| .cons tk52 <| .cons tk57 <| .cons tk58 <| .nil mixed
def B14 : SchT := [(9, [(1, some [0, 2, 4, 5]), (2, some [0, 1, 4, 5]), (3, some [0, 1, 2, 4, 5]), (0, some [1, 2, 3, 4, 5, 6]), (4, none), (5, some [0, 1, 2, 3, 4]), (6, some [0, 1, 2, 3, 4, 5]), (7, some [0, 1, 2, 3, 4, 5, 6]), (8, some [0, 1, 2, 3, 4, 5, 6, 7]), (9, none), (10, some [0, 1, 2, 3, 4, 5, 6, 7, 8, 9])])]
theorem B14_ok : regsO B14 Try.f14.body = true := by kernel_rfl
theorem F14_ok : FOk Try.prog 14 (FI.of Try.f14 T14 B14) := FOk.of Try.func14 rfl T14_ok B14_ok Try.call14
def T15 : Tab := [(3, ti3), (27, ti27), (52, ti52)]
theorem T15_ok : TabOk Try.prog T15 := .cons tk3 <| .cons tk27 <| .cons tk52 <| .nil mixed
def B15 : SchT := [(6, [(0, some [1, 4, 5, 6, 7]), (1, some [0, 4, 5, 6, 7]), (2, some [0, 1, 4, 5, 6, 7]), (4, some [0, 1, 2, 3, 5]), (5, some [0, 1, 2, 3, 4]), (6, some [0, 1, 2, 3, 4, 5]), (3, some [0, 1, 2, 4, 5, 6, 7]), (7, none), (8, some [0, 1, 2, 3, 4, 5, 6, 7])])]
theorem B15_ok : regsO B15 Try.f15.body = true := by kernel_rfl
theorem F15_ok : FOk Try.prog 15 (FI.of Try.f15 T15 B15) := FOk.of Try.func15 rfl T15_ok B15_ok Try.call15
def T16 : Tab := [(3, ti3), (4, ti4), (5, ti5), (22, ti22), (27, ti27), (52, ti52)]
theorem T16_ok : TabOk Try.prog T16 := .cons tk3 <| .cons tk4 <| .cons tk5 <| .cons tk22 <| .cons tk27 <| .cons tk52 <| .nil mixed
def B16 : SchT := [(17, [(0, some []), (1, some [0]), (2, some [0, 1]), (4, some [0, 1, 2, 3, 5]), (5, some [0, 1, 2, 3, 4]), (6, some [0, 1, 2, 3, 4, 5]), (3, some [0, 1, 2, 4, 5, 6, 7]), (7, none), (8, none), (9, some [0, 1, 2, 3, 4, 5, 6, 7, 8])])]
theorem B16_ok : regsO B16 Try.f16.body = true := by kernel_rfl
theorem F16_ok : FOk Try.prog 16 (FI.of Try.f16 T16 B16) := FOk.of Try.func16 rfl T16_ok B16_ok Try.call16
def T17 : Tab := [(3, ti3), (4, ti4), (5, ti5), (22, ti22), (27, ti27), (33, ti33), (52, ti52)]
theorem T17_ok : TabOk Try.prog T17 := .cons tk3 <| .cons tk4 <| .cons tk5 <| .cons tk22 <| .cons tk27 <| .cons tk33 <| .cons tk52 <| .nil mixed
def B17 : SchT := []
theorem B17_ok : regsO B17 Try.f17.body = true := by kernel_rfl
theorem F17_ok : FOk Try.prog 17 (FI.of Try.f17 T17 B17) := FOk.of Try.func17 rfl T17_ok B17_ok Try.call17
def T18 : Tab := [(3, ti3), (5, ti5), (22, ti22), (27, ti27), (52, ti52)]
theorem T18_ok : TabOk Try.prog T18 := .cons tk3 <| .cons tk5 <| .cons tk22 <| .cons tk27 <| .cons tk52 <| .nil mixed
def B18 : SchT := []
theorem B18_ok : regsO B18 Try.f18.body = true := by kernel_rfl
theorem F18_ok : FOk Try.prog 18 (FI.of Try.f18 T18 B18) := FOk.of Try.func18 rfl T18_ok B18_ok Try.call18
def T19 : Tab := [(3, ti3), (5, ti5), (22, ti22)]
theorem T19_ok : TabOk Try.prog T19 := .cons tk3 <| .cons tk5 <| .cons tk22 <| .nil mixed
def B19 : SchT := []
theorem B19_ok : regsO B19 Try.f19.body = true := by kernel_rfl
theorem F19_ok : FOk Try.prog 19 (FI.of Try.f19 T19 B19) := FOk.of Try.func19 rfl T19_ok B19_ok Try.call19
def T20 : Tab := [(3, ti3), (5, ti5), (22, ti22)]
theorem T20_ok : TabOk Try.prog T20 := .cons tk3 <| .cons tk5 <| .cons tk22 <| .nil mixed
def B20 : SchT := [(4, [(0, some [1]), (1, some [0]), (2, some [0, 1]), (3, none), (4, some [0, 1, 2, 3]), (5, some [0, 1, 2, 3, 4]), (6, some [0, 1, 2, 3, 4, 5]), (7, some [0, 1, 2, 3, 4, 5, 6]), (8, some [0, 1, 2, 3, 4, 5, 6, 7]), (9, some [0, 1, 2, 3, 4, 5, 6, 7, 8, 10, 11, 14, 15, 16, 17]), (10, some [0, 1, 2, 3, 4, 5, 6, 7, 8, 9, 14, 15, 16, 17]), (11, some [0, 1, 2, 3, 4, 5, 6, 7, 8, 9, 10, 14, 15, 16, 17]), (12, some [0, 1, 2, 3, 4, 5, 6, 7, 8, 9, 10, 11, 14, 15, 16, 17]), (14, some [0, 1, 2, 3, 4, 5, 6, 7, 8, 9, 10, 11, 12, 13, 15]), (15, some [0, 1, 2, 3, 4, 5, 6, 7, 8, 9, 10, 11, 12, 13, 14]), (16, some [0, 1, 2, 3, 4, 5, 6, 7, 8, 9, 10, 11, 12, 13, 14, 15]), (13, some [0, 1, 2, 3, 4, 5, 6, 7, 8, 9, 10, 11, 12, 14, 15, 16, 17]), (17, none), (18, some [0, 1, 2, 3, 4, 5, 6, 7, 8, 9, 10, 11, 12, 13, 14, 15, 16, 17]), (19, some [0, 1, 2, 3, 4, 5, 6, 7, 8, 9, 10, 11, 12, 13, 14, 15, 16, 17, 18]), (20, some [0, 1, 2, 3, 4, 5, 6, 7, 8, 9, 10, 11, 12, 13, 14, 15, 16, 17, 18, 19])])]
theorem B20_ok : regsO B20 Try.f20.body = true := by kernel_rfl
theorem F20_ok : FOk Try.prog 20 (FI.of Try.f20 T20 B20) := FOk.of Try.func20 rfl T20_ok B20_ok Try.call20
def T21 : Tab := [(3, ti3), (5, ti5), (22, ti22), (35, ti35)]
theorem T21_ok : TabOk Try.prog T21 := .cons tk3 <| .cons tk5 <| .cons tk22 <| .cons tk35 <| .nil mixed
def B21 : SchT := []
theorem B21_ok : regsO B21 Try.f21.body = true := by kernel_rfl
theorem F21_ok : FOk Try.prog 21 (FI.of Try.f21 T21 B21) := FOk.of Try.func21 rfl T21_ok B21_ok Try.call21
def T22 : Tab := [(4, ti4), (5, ti5), (22, ti22), (33, ti33), (35, ti35)]
theorem T22_ok : TabOk Try.prog T22 := .cons tk4 <| .cons tk5 <| .cons tk22 <| .cons tk33 <| .cons tk35 <| .nil mixed
def B22 : SchT := []
theorem B22_ok : regsO B22 Try.f22.body = true := by kernel_rfl
theorem F22_ok : FOk Try.prog 22 (FI.of Try.f22 T22 B22) := FOk.of Try.func22 rfl T22_ok B22_ok Try.call22
def T23 : Tab := [(3, ti3), (4, ti4), (5, ti5), (22, ti22), (33, ti33), (35, ti35)]
theorem T23_ok : TabOk Try.prog T23 := .cons tk3 <| .cons tk4 <| .cons tk5 <| .cons tk22 <| .cons tk33 <| .cons tk35 <| .nil mixed
def B23 : SchT := [(5, [(0, some []), (1, none), (2, none), (3, some [0, 1, 2]), (4, some [0, 1, 2, 3]), (5, none), (6, some [0, 1, 2, 3, 4, 5]), (7, some [0, 1, 2, 3, 4, 5, 6]), (8, some [0, 1, 2, 3, 4, 5, 6, 7]), (9, some [0, 1, 2, 3, 4, 5, 6, 7, 8]), (10, some [0, 1, 2, 3, 4, 5, 6, 7, 8, 9, 13, 14]), (13, some [0, 1, 2, 3, 4, 5, 6, 7, 8, 9, 10, 11, 12]), (11, some [0, 1, 2, 3, 4, 5, 6, 7, 8, 9, 10, 13, 14]), (14, some [0, 1, 2, 3, 4, 5, 6, 7, 8, 9, 10, 11, 12, 13]), (12, none), (15, none), (16, some [0, 1, 2, 3, 4, 5, 6, 7, 8, 9, 10, 11, 12, 13, 14, 15]), (17, none), (18, some [0, 1, 2, 3, 4, 5, 6, 7, 8, 9, 10, 11, 12, 13, 14, 15, 16, 17]), (19, some [0, 1, 2, 3, 4, 5, 6, 7, 8, 9, 10, 11, 12, 13, 14, 15, 16, 17, 18]), (20, some [0, 1, 2, 3, 4, 5, 6, 7, 8, 9, 10, 11, 12, 13, 14, 15, 16, 17, 18, 19])])]
theorem B23_ok : regsO B23 Try.f23.body = true := by kernel_rfl
theorem F23_ok : FOk Try.prog 23 (FI.of Try.f23 T23 B23) := FOk.of Try.func23 rfl T23_ok B23_ok Try.call23
def T24 : Tab := [(3, ti3), (4, ti4), (5, ti5), (22, ti22), (33, ti33), (35, ti35)]
theorem T24_ok : TabOk Try.prog T24 := .cons tk3 <| .cons tk4 <| .cons tk5 <| .cons tk22 <| .cons tk33 <| .cons tk35 <| .nil mixed
def B24 : SchT := [(5, [(0, some []), (1, none), (2, some [0, 1]), (3, some [0, 1, 2]), (4, some [0, 1, 2, 3]), (5, some [0, 1, 2, 3, 4]), (6, none), (7, none), (8, some [0, 1, 2, 3, 4, 5, 6, 7]), (9, some [0, 1, 2, 3, 4, 5, 6, 7, 8]), (10, some [0, 1, 2, 3, 4, 5, 6, 7, 8, 9, 12, 13, 15, 16, 17, 18]), (12, some [0, 1, 2, 3, 4, 5, 6, 7, 8, 9, 10, 11, 15, 16, 17, 18]), (15, some [0, 1, 2, 3, 4, 5, 6, 7, 8, 9, 10, 11, 12, 13, 14, 17, 18]), (17, some [0, 1, 2, 3, 4, 5, 6, 7, 8, 9, 10, 11, 12, 13, 14, 15, 16]), (11, some [0, 1, 2, 3, 4, 5, 6, 7, 8, 9, 10, 12, 13, 15, 16, 17, 18]), (13, some [0, 1, 2, 3, 4, 5, 6, 7, 8, 9, 10, 11, 12, 15, 16, 17, 18]), (16, some [0, 1, 2, 3, 4, 5, 6, 7, 8, 9, 10, 11, 12, 13, 14, 15, 17, 18]), (18, some [0, 1, 2, 3, 4, 5, 6, 7, 8, 9, 10, 11, 12, 13, 14, 15, 16, 17]), (14, none), (19, none), (20, some [0, 1, 2, 3, 4, 5, 6, 7, 8, 9, 10, 11, 12, 13, 14, 15, 16, 17, 18, 19]), (21, some [0, 1, 2, 3, 4, 5, 6, 7, 8, 9, 10, 11, 12, 13, 14, 15, 16, 17, 18, 19, 20]), (22, some [0, 1, 2, 3, 4, 5, 6, 7, 8, 9, 10, 11, 12, 13, 14, 15, 16, 17, 18, 19, 20, 21]), (23, some [0, 1, 2, 3, 4, 5, 6, 7, 8, 9, 10, 11, 12, 13, 14, 15, 16, 17, 18, 19, 20, 21, 22])])]
theorem B24_ok : regsO B24 Try.f24.body = true := by kernel_rfl
theorem F24_ok : FOk Try.prog 24 (FI.of Try.f24 T24 B24) := FOk.of Try.func24 rfl T24_ok B24_ok Try.call24
def T25 : Tab := [(33, ti33), (35, ti35)]
theorem T25_ok : TabOk Try.prog T25 := .cons tk33 <| .cons tk35 <| .nil mixed
def B25 : SchT := []
theorem B25_ok : regsO B25 Try.f25.body = true := by kernel_rfl
theorem F25_ok : FOk Try.prog 25 (FI.of Try.f25 T25 B25) := FOk.of Try.func25 rfl T25_ok B25_ok Try.call25
def T26 : Tab := [(3, ti3), (4, ti4), (5, ti5), (22, ti22), (33, ti33), (35, ti35), (64, ti64)]
theorem T26_ok : TabOk Try.prog T26 := .cons tk3 <| .cons tk4 <| .cons tk5 <| .cons tk22 <| .cons tk33 <| .cons tk35 <| .cons tk64 <| .nil mixed
def B26 : SchT := []
theorem B26_ok : regsO B26 Try.f26.body = true := by kernel_rfl
theorem F26_ok : FOk Try.prog 26 (FI.of Try.f26 T26 B26) := FOk.of Try.func26 rfl T26_ok B26_ok Try.call26
def T27 : Tab := [(3, ti3), (4, ti4), (5, ti5), (22, ti22), (33, ti33), (35, ti35)]
theorem T27_ok : TabOk Try.prog T27 := .cons tk3 <| .cons tk4 <| .cons tk5 <| .cons tk22 <| .cons tk33 <| .cons tk35 <| .nil mixed
def B27 : SchT := []
theorem B27_ok : regsO B27 Try.f27.body = true := by kernel_rfl
theorem F27_ok : FOk Try.prog 27 (FI.of Try.f27 T27 B27) := FOk.of Try.func27 rfl T27_ok B27_ok Try.call27
def T28 : Tab := [(5, ti5), (22, ti22), (33, ti33), (35, ti35)]
theorem T28_ok : TabOk Try.prog T28 := .cons tk5 <| .cons tk22 <| .cons tk33 <| .cons tk35 <| .nil mixed
def B28 : SchT := []
theorem B28_ok : regsO B28 Try.f28.body = true := by kernel_rfl
theorem F28_ok : FOk Try.prog 28 (FI.of Try.f28 T28 B28) := FOk.of Try.func28 rfl T28_ok B28_ok Try.call28
def T29 : Tab := [(3, ti3), (5, ti5), (22, ti22), (33, ti33), (35, ti35)]
theorem T29_ok : TabOk Try.prog T29 := .cons tk3 <| .cons tk5 <| .cons tk22 <| .cons tk33 <| .cons tk35 <| .nil mixed
def B29 : SchT := []
theorem B29_ok : regsO B29 Try.f29.body = true := by kernel_rfl
theorem F29_ok : FOk Try.prog 29 (FI.of Try.f29 T29 B29) := FOk.of Try.func29 rfl T29_ok B29_ok Try.call29
def T30 : Tab := [(5, ti5), (22, ti22), (35, ti35), (64, ti64)]
theorem T30_ok : TabOk Try.prog T30 := .cons tk5 <| .cons tk22 <| .cons tk35 <| .cons tk64 <| .nil mixed
def B30 : SchT := []
theorem B30_ok : regsO B30 Try.f30.body = true := by kernel_rfl
theorem F30_ok : FOk Try.prog 30 (FI.of Try.f30 T30 B30) := FOk.of Try.func30 rfl T30_ok B30_ok Try.call30
def T31 : Tab := [(3, ti3), (5, ti5), (22, ti22), (33, ti33), (35, ti35)]
theorem T31_ok : TabOk Try.prog T31 := .cons tk3 <| .cons tk5 <| .cons tk22 <| .cons tk33 <| .cons tk35 <| .nil mixed
def B31 : SchT := []
theorem B31_ok : regsO B31 Try.f31.body = true := by kernel_rfl
theorem F31_ok : FOk Try.prog 31 (FI.of Try.f31 T31 B31) := FOk.of Try.func31 rfl T31_ok B31_ok Try.call31
def T32 : Tab := [(3, ti3), (4, ti4), (5, ti5), (22, ti22), (33, ti33), (35, ti35)]
theorem T32_ok : TabOk Try.prog T32 := .cons tk3 <| .cons tk4 <| .cons tk5 <| .cons tk22 <| .cons tk33 <| .cons tk35 <| .nil mixed
def B32 : SchT := []
theorem B32_ok : regsO B32 Try.f32.body = true := by kernel_rfl
theorem F32_ok : FOk Try.prog 32 (FI.of Try.f32 T32 B32) := FOk.of Try.func32 rfl T32_ok B32_ok Try.call32
def T33 : Tab := [(3, ti3), (4, ti4), (5, ti5), (22, ti22), (33, ti33), (35, ti35)]
theorem T33_ok : TabOk Try.prog T33 := .cons tk3 <| .cons tk4 <| .cons tk5 <| .cons tk22 <| .cons tk33 <| .cons tk35 <| .nil mixed
def B33 : SchT := []
theorem B33_ok : regsO B33 Try.f33.body = true := by kernel_rfl
theorem F33_ok : FOk Try.prog 33 (FI.of Try.f33 T33 B33) := FOk.of Try.func33 rfl T33_ok B33_ok Try.call33
def T34 : Tab := [(5, ti5), (9, ti9), (22, ti22), (33, ti33), (35, ti35)]
theorem T34_ok : TabOk Try.prog T34 := .cons tk5 <| .cons tk9 <| .cons tk22 <| .cons tk33 <| .cons tk35 <| .nil mixed
def B34 : SchT := []
theorem B34_ok : regsO B34 Try.f34.body = true := by kernel_rfl
theorem F34_ok : FOk Try.prog 34 (FI.of Try.f34 T34 B34) := FOk.of Try.func34 rfl T34_ok B34_ok Try.call34
def T35 : Tab := [(3, ti3), (5, ti5), (22, ti22), (74, ti74)]
theorem T35_ok : TabOk Try.prog T35 := .cons tk3 <| .cons tk5 <| .cons tk22 <| .cons tk74 <| .nil mixed
def B35 : SchT := []
theorem B35_ok : regsO B35 Try.f35.body = true := by kernel_rfl
theorem F35_ok : FOk Try.prog 35 (FI.of Try.f35 T35 B35) := FOk.of Try.func35 rfl T35_ok B35_ok Try.call35
def T36 : Tab := [(5, ti5), (22, ti22)]
theorem T36_ok : TabOk Try.prog T36 := .cons tk5 <| .cons tk22 <| .nil mixed
def B36 : SchT := []
theorem B36_ok : regsO B36 Try.f36.body = true := by kernel_rfl
theorem F36_ok : FOk Try.prog 36 (FI.of Try.f36 T36 B36) := FOk.of Try.func36 rfl T36_ok B36_ok Try.call36
def T37 : Tab := [(3, ti3), (5, ti5), (22, ti22)]
theorem T37_ok : TabOk Try.prog T37 := .cons tk3 <| .cons tk5 <| .cons tk22 <| .nil mixed
def B37 : SchT := [(6, [(0, some [1, 4, 5, 6, 7, 8]), (1, some [0, 4, 5, 6, 7, 8]), (2, some [0, 1, 4, 5, 6, 7, 8]), (4, some [0, 1, 2, 3, 5, 6]), (5, some [0, 1, 2, 3, 4]), (6, some [0, 1, 2, 3, 4, 5]), (7, some [0, 1, 2, 3, 4, 5, 6]), (3, some [0, 1, 2, 4, 5, 6, 7, 8]), (8, none), (9, some [0, 1, 2, 3, 4, 5, 6, 7, 8])]), (11, [(0, some [1, 4, 5, 6, 7, 8]), (1, some [0, 4, 5, 6, 7, 8]), (2, some [0, 1, 4, 5, 6, 7, 8]), (4, some [0, 1, 2, 3, 5, 6]), (5, some [0, 1, 2, 3, 4]), (6, some [0, 1, 2, 3, 4, 5]), (7, some [0, 1, 2, 3, 4, 5, 6]), (3, some [0, 1, 2, 4, 5, 6, 7, 8]), (8, none), (9, some [0, 1, 2, 3, 4, 5, 6, 7, 8])])]
theorem B37_ok : regsO B37 Try.f37.body = true := by kernel_rfl
theorem F37_ok : FOk Try.prog 37 (FI.of Try.f37 T37 B37) := FOk.of Try.func37 rfl T37_ok B37_ok Try.call37
def T38 : Tab := [(5, ti5), (22, ti22), (33, ti33)]
theorem T38_ok : TabOk Try.prog T38 := .cons tk5 <| .cons tk22 <| .cons tk33 <| .nil mixed
def B38 : SchT := []
theorem B38_ok : regsO B38 Try.f38.body = true := by kernel_rfl
theorem F38_ok : FOk Try.prog 38 (FI.of Try.f38 T38 B38) := FOk.of Try.func38 rfl T38_ok B38_ok Try.call38
def T39 : Tab := [(3, ti3), (27, ti27), (52, ti52), (54, ti54), (74, ti74)]
theorem T39_ok : TabOk Try.prog T39 := .cons tk3 <| .cons tk27 <| .cons tk52 <| .cons tk54 <| .cons tk74 <| .nil mixed
def B39 : SchT := []
theorem B39_ok : regsO B39 Try.f39.body = true := by kernel_rfl
theorem F39_ok : FOk Try.prog 39 (FI.of Try.f39 T39 B39) := FOk.of Try.func39 rfl T39_ok B39_ok Try.call39
def T40 : Tab := [(3, ti3), (5, ti5), (33, ti33), (52, ti52), (100, ti100)]
theorem T40_ok : TabOk Try.prog T40 := .cons tk3 <| .cons tk5 <| .cons tk33 <| .cons tk52 <| .cons tk100 <| .nil mixed
def B40 : SchT := [(1, [(0, some [2, 3, 5, 6, 7, 8]), (2, some [0, 1, 5, 6, 7, 8]), (5, some [0, 1, 2, 3, 4, 7, 8]), (7, some [0, 1, 2, 3, 4, 5, 6]), (1, some [0, 2, 3, 5, 6, 7, 8]), (3, some [0, 1, 2, 5, 6, 7, 8]), (6, some [0, 1, 2, 3, 4, 5, 7, 8]), (8, some [0, 1, 2, 3, 4, 5, 6, 7]), (4, none), (9, none), (10, none), (11, none), (12, some [0, 1, 2, 3, 4, 5, 6, 7, 8, 9, 10, 11])])]
theorem B40_ok : regsO B40 Try.f40.body = true := by kernel_rfl
theorem F40_ok : FOk Try.prog 40 (FI.of Try.f40 T40 B40) := FOk.of Try.func40 rfl T40_ok B40_ok Try.call40
def T41 : Tab := [(5, ti5), (22, ti22), (33, ti33)]
theorem T41_ok : TabOk Try.prog T41 := .cons tk5 <| .cons tk22 <| .cons tk33 <| .nil mixed
def B41 : SchT := []
theorem B41_ok : regsO B41 Try.f41.body = true := by kernel_rfl
theorem F41_ok : FOk Try.prog 41 (FI.of Try.f41 T41 B41) := FOk.of Try.func41 rfl T41_ok B41_ok Try.call41
def T42 : Tab := [(3, ti3), (4, ti4), (74, ti74)]
theorem T42_ok : TabOk Try.prog T42 := .cons tk3 <| .cons tk4 <| .cons tk74 <| .nil mixed
def B42 : SchT := []
theorem B42_ok : regsO B42 Try.f42.body = true := by kernel_rfl
theorem F42_ok : FOk Try.prog 42 (FI.of Try.f42 T42 B42) := FOk.of Try.func42 rfl T42_ok B42_ok Try.call42
def T43 : Tab := [(27, ti27), (33, ti33), (52, ti52)]
theorem T43_ok : TabOk Try.prog T43 := .cons tk27 <| .cons tk33 <| .cons tk52 <| .nil mixed
def B43 : SchT := [(1, [(1, some [0, 5]), (0, some [1, 5]), (2, some [0, 1, 5]), (3, some [0, 1, 2, 5]), (4, some [0, 1, 2, 3, 5]), (5, none), (6, some [0, 1, 2, 3, 4, 5]), (7, some [0, 1, 2, 3, 4, 5, 6])])]
theorem B43_ok : regsO B43 Try.f43.body = true := by kernel_rfl
theorem F43_ok : FOk Try.prog 43 (FI.of Try.f43 T43 B43) := FOk.of Try.func43 rfl T43_ok B43_ok Try.call43
def T44 : Tab := [(3, ti3), (5, ti5), (22, ti22)]
theorem T44_ok : TabOk Try.prog T44 := .cons tk3 <| .cons tk5 <| .cons tk22 <| .nil mixed
def B44 : SchT := []
theorem B44_ok : regsO B44 Try.f44.body = true := by kernel_rfl
theorem F44_ok : FOk Try.prog 44 (FI.of Try.f44 T44 B44) := FOk.of Try.func44 rfl T44_ok B44_ok Try.call44
def T45 : Tab := [(5, ti5), (22, ti22), (33, ti33)]
theorem T45_ok : TabOk Try.prog T45 := .cons tk5 <| .cons tk22 <| .cons tk33 <| .nil mixed
def B45 : SchT := []
theorem B45_ok : regsO B45 Try.f45.body = true := by kernel_rfl
theorem F45_ok : FOk Try.prog 45 (FI.of Try.f45 T45 B45) := FOk.of Try.func45 rfl T45_ok B45_ok Try.call45
def T46 : Tab := [(5, ti5), (33, ti33), (52, ti52)]
theorem T46_ok : TabOk Try.prog T46 := .cons tk5 <| .cons tk33 <| .cons tk52 <| .nil mixed
def B46 : SchT := []
theorem B46_ok : regsO B46 Try.f46.body = true := by kernel_rfl
theorem F46_ok : FOk Try.prog 46 (FI.of Try.f46 T46 B46) := FOk.of Try.func46 rfl T46_ok B46_ok Try.call46
def T47 : Tab := [(5, ti5), (22, ti22), (33, ti33)]
theorem T47_ok : TabOk Try.prog T47 := .cons tk5 <| .cons tk22 <| .cons tk33 <| .nil mixed
def B47 : SchT := []
theorem B47_ok : regsO B47 Try.f47.body = true := by kernel_rfl
theorem F47_ok : FOk Try.prog 47 (FI.of Try.f47 T47 B47) := FOk.of Try.func47 rfl T47_ok B47_ok Try.call47
def T48 : Tab := [(3, ti3), (33, ti33)]
theorem T48_ok : TabOk Try.prog T48 := .cons tk3 <| .cons tk33 <| .nil mixed
def B48 : SchT := []
theorem B48_ok : regsO B48 Try.f48.body = true := by kernel_rfl
theorem F48_ok : FOk Try.prog 48 (FI.of Try.f48 T48 B48) := FOk.of Try.func48 rfl T48_ok B48_ok Try.call48
def T49 : Tab := [(3, ti3), (5, ti5), (22, ti22), (33, ti33)]
theorem T49_ok : TabOk Try.prog T49 := .cons tk3 <| .cons tk5 <| .cons tk22 <| .cons tk33 <| .nil mixed
def B49 : SchT := []
theorem B49_ok : regsO B49 Try.f49.body = true := by kernel_rfl
theorem F49_ok : FOk Try.prog 49 (FI.of Try.f49 T49 B49) := FOk.of Try.func49 rfl T49_ok B49_ok Try.call49
def T50 : Tab := [(3, ti3), (4, ti4), (5, ti5), (22, ti22)]
theorem T50_ok : TabOk Try.prog T50 := .cons tk3 <| .cons tk4 <| .cons tk5 <| .cons tk22 <| .nil mixed
def B50 : SchT := []
theorem B50_ok : regsO B50 Try.f50.body = true := by kernel_rfl
theorem F50_ok : FOk Try.prog 50 (FI.of Try.f50 T50 B50) := FOk.of Try.func50 rfl T50_ok B50_ok Try.call50
def T51 : Tab := [(5, ti5), (22, ti22), (35, ti35), (64, ti64)]
theorem T51_ok : TabOk Try.prog T51 := .cons tk5 <| .cons tk22 <| .cons tk35 <| .cons tk64 <| .nil mixed
def B51 : SchT := []
theorem B51_ok : regsO B51 Try.f51.body = true := by kernel_rfl
theorem F51_ok : FOk Try.prog 51 (FI.of Try.f51 T51 B51) := FOk.of Try.func51 rfl T51_ok B51_ok Try.call51
def T52 : Tab := [(3, ti3), (5, ti5), (22, ti22), (33, ti33)]
theorem T52_ok : TabOk Try.prog T52 := .cons tk3 <| .cons tk5 <| .cons tk22 <| .cons tk33 <| .nil mixed
def B52 : SchT := []
theorem B52_ok : regsO B52 Try.f52.body = true := by kernel_rfl
theorem F52_ok : FOk Try.prog 52 (FI.of Try.f52 T52 B52) := FOk.of Try.func52 rfl T52_ok B52_ok Try.call52
def T53 : Tab := [(3, ti3), (5, ti5), (22, ti22), (64, ti64)]
theorem T53_ok : TabOk Try.prog T53 := .cons tk3 <| .cons tk5 <| .cons tk22 <| .cons tk64 <| .nil mixed
def B53 : SchT := []
theorem B53_ok : regsO B53 Try.f53.body = true := by kernel_rfl
theorem F53_ok : FOk Try.prog 53 (FI.of Try.f53 T53 B53) := FOk.of Try.func53 rfl T53_ok B53_ok Try.call53
def T54 : Tab := [(3, ti3), (5, ti5), (22, ti22)]
theorem T54_ok : TabOk Try.prog T54 := .cons tk3 <| .cons tk5 <| .cons tk22 <| .nil mixed
def B54 : SchT := []
theorem B54_ok : regsO B54 Try.f54.body = true := by kernel_rfl
theorem F54_ok : FOk Try.prog 54 (FI.of Try.f54 T54 B54) := FOk.of Try.func54 rfl T54_ok B54_ok Try.call54
def T55 : Tab := [(3, ti3), (5, ti5), (22, ti22), (74, ti74)]
theorem T55_ok : TabOk Try.prog T55 := .cons tk3 <| .cons tk5 <| .cons tk22 <| .cons tk74 <| .nil mixed
def B55 : SchT := []
theorem B55_ok : regsO B55 Try.f55.body = true := by kernel_rfl
theorem F55_ok : FOk Try.prog 55 (FI.of Try.f55 T55 B55) := FOk.of Try.func55 rfl T55_ok B55_ok Try.call55
def T56 : Tab := [(3, ti3), (5, ti5), (22, ti22)]
theorem T56_ok : TabOk Try.prog T56 := .cons tk3 <| .cons tk5 <| .cons tk22 <| .nil mixed
def B56 : SchT := [(5, [(0, some [1, 3, 4, 5]), (1, some [0, 3, 4, 5]), (2, some [0, 1, 3, 4, 5]), (3, some [0, 1, 2, 4]), (4, some [0, 1, 2, 3]), (5, some [0, 1, 2, 3, 4]), (6, none), (7, some [0, 1, 2, 3, 4, 5, 6])])]
theorem B56_ok : regsO B56 Try.f56.body = true := by kernel_rfl
theorem F56_ok : FOk Try.prog 56 (FI.of Try.f56 T56 B56) := FOk.of Try.func56 rfl T56_ok B56_ok Try.call56
def T57 : Tab := [(3, ti3), (4, ti4), (5, ti5), (22, ti22)]
theorem T57_ok : TabOk Try.prog T57 := .cons tk3 <| .cons tk4 <| .cons tk5 <| .cons tk22 <| .nil mixed
def B57 : SchT := [(11, [(0, some [1, 2, 3, 5, 6, 7]), (1, some [0, 2, 5, 6, 7]), (2, some [0, 1, 5, 6, 7]), (3, some [0, 1, 2, 5, 6, 7]), (4, some [0, 1, 2, 3, 5, 6, 7]), (5, some [0, 1, 2, 3, 4, 6]), (6, some [0, 1, 2, 3, 4, 5]), (7, some [0, 1, 2, 3, 4, 5, 6]), (8, none)]), (15, [(0, some [1, 2, 3, 5, 6, 7]), (1, some [0, 2, 5, 6, 7]), (2, some [0, 1, 5, 6, 7]), (3, some [0, 1, 2, 5, 6, 7]), (4, some [0, 1, 2, 3, 5, 6, 7]), (5, some [0, 1, 2, 3, 4, 6]), (6, some [0, 1, 2, 3, 4, 5]), (7, some [0, 1, 2, 3, 4, 5, 6]), (8, none)])]
theorem B57_ok : regsO B57 Try.f57.body = true := by kernel_rfl
theorem F57_ok : FOk Try.prog 57 (FI.of Try.f57 T57 B57) := FOk.of Try.func57 rfl T57_ok B57_ok Try.call57
def T58 : Tab := [(3, ti3), (4, ti4), (5, ti5), (22, ti22), (87, ti87)]
theorem T58_ok : TabOk Try.prog T58 := .cons tk3 <| .cons tk4 <| .cons tk5 <| .cons tk22 <| .cons tk87 <| .nil mixed
def B58 : SchT := [(17, [(0, some []), (1, some [0]), (2, some [0, 1]), (3, some [0, 1, 2, 4, 5, 8, 9, 10, 11]), (4, some [0, 1, 2, 3, 8, 9, 10, 11]), (5, some [0, 1, 2, 3, 4, 8, 9, 10, 11]), (6, some [0, 1, 2, 3, 4, 5, 8, 9, 10, 11]), (8, some [0, 1, 2, 3, 4, 5, 6, 7, 9]), (9, some [0, 1, 2, 3, 4, 5, 6, 7, 8]), (10, some [0, 1, 2, 3, 4, 5, 6, 7, 8, 9]), (7, some [0, 1, 2, 3, 4, 5, 6, 8, 9, 10, 11]), (11, none), (12, none), (13, some [0, 1, 2, 3, 4, 5, 6, 7, 8, 9, 10, 11, 12]), (14, some [0, 1, 2, 3, 4, 5, 6, 7, 8, 9, 10, 11, 12, 13])])]
theorem B58_ok : regsO B58 Try.f58.body = true := by kernel_rfl
theorem F58_ok : FOk Try.prog 58 (FI.of Try.f58 T58 B58) := FOk.of Try.func58 rfl T58_ok B58_ok Try.call58
def T59 : Tab := [(33, ti33), (74, ti74), (94, ti94)]
theorem T59_ok : TabOk Try.prog T59 := .cons tk33 <| .cons tk74 <| .cons tk94 <| .nil mixed
def B59 : SchT := []
theorem B59_ok : regsO B59 Try.f59.body = true := by kernel_rfl
theorem F59_ok : FOk Try.prog 59 (FI.of Try.f59 T59 B59) := FOk.of Try.func59 rfl T59_ok B59_ok Try.call59
def T60 : Tab := [(33, ti33)]
theorem T60_ok : TabOk Try.prog T60 := .cons tk33 <| .nil mixed
def B60 : SchT := []
theorem B60_ok : regsO B60 Try.f60.body = true := by kernel_rfl
theorem F60_ok : FOk Try.prog 60 (FI.of Try.f60 T60 B60) := FOk.of Try.func60 rfl T60_ok B60_ok Try.call60
def T61 : Tab := [(3, ti3), (5, ti5), (22, ti22), (33, ti33)]
theorem T61_ok : TabOk Try.prog T61 := .cons tk3 <| .cons tk5 <| .cons tk22 <| .cons tk33 <| .nil mixed
def B61 : SchT := []
theorem B61_ok : regsO B61 Try.f61.body = true := by kernel_rfl
theorem F61_ok : FOk Try.prog 61 (FI.of Try.f61 T61 B61) := FOk.of Try.func61 rfl T61_ok B61_ok Try.call61
def T62 : Tab := [(3, ti3), (4, ti4), (27, ti27), (52, ti52), (54, ti54), (87, ti87)]
theorem T62_ok : TabOk Try.prog T62 := .cons tk3 <| .cons tk4 <| .cons tk27 <| .cons tk52 <| .cons tk54 <| .cons tk87 <| .nil mixed
def B62 : SchT := [(17, [(0, some []), (1, some [0]), (2, some [0, 1]), (3, some [0, 1, 2, 4, 5, 6, 7, 8, 9, 10, 11, 12]), (4, some [0, 1, 2, 3, 5, 6, 9, 10, 11, 12]), (5, some [0, 1, 2, 3, 4, 9, 10, 11, 12]), (6, some [0, 1, 2, 3, 4, 5, 9, 10, 11, 12]), (7, some [0, 1, 2, 3, 4, 5, 6, 9, 10, 11, 12]), (9, some [0, 1, 2, 3, 4, 5, 6, 7, 8, 10]), (10, some [0, 1, 2, 3, 4, 5, 6, 7, 8, 9]), (11, some [0, 1, 2, 3, 4, 5, 6, 7, 8, 9, 10]), (8, some [0, 1, 2, 3, 4, 5, 6, 7, 9, 10, 11, 12]), (12, none), (13, none), (14, some [0, 1, 2, 3, 4, 5, 6, 7, 8, 9, 10, 11, 12, 13]), (15, some [0, 1, 2, 3, 4, 5, 6, 7, 8, 9, 10, 11, 12, 13, 14]), (16, some [0, 1, 2, 3, 4, 5, 6, 7, 8, 9, 10, 11, 12, 13, 14, 15])])]
theorem B62_ok : regsO B62 Try.f62.body = true := by kernel_rfl
theorem F62_ok : FOk Try.prog 62 (FI.of Try.f62 T62 B62) := FOk.of Try.func62 rfl T62_ok B62_ok Try.call62
def T63 : Tab := [(3, ti3), (100, ti100)]
theorem T63_ok : TabOk Try.prog T63 := .cons tk3 <| .cons tk100 <| .nil mixed
def B63 : SchT := []
theorem B63_ok : regsO B63 Try.f63.body = true := by kernel_rfl
theorem F63_ok : FOk Try.prog 63 (FI.of Try.f63 T63 B63) := FOk.of Try.func63 rfl T63_ok B63_ok Try.call63
def T64 : Tab := [(33, ti33)]
theorem T64_ok : TabOk Try.prog T64 := .cons tk33 <| .nil mixed
def B64 : SchT := []
theorem B64_ok : regsO B64 Try.f64.body = true := by kernel_rfl
theorem F64_ok : FOk Try.prog 64 (FI.of Try.f64 T64 B64) := FOk.of Try.func64 rfl T64_ok B64_ok Try.call64
def T65 : Tab := [(5, ti5)]
theorem T65_ok : TabOk Try.prog T65 := .cons tk5 <| .nil mixed
def B65 : SchT := []
theorem B65_ok : regsO B65 Try.f65.body = true := by kernel_rfl
theorem F65_ok : FOk Try.prog 65 (FI.of Try.f65 T65 B65) := FOk.of Try.func65 rfl T65_ok B65_ok Try.call65
def T66 : Tab := [(33, ti33)]
theorem T66_ok : TabOk Try.prog T66 := .cons tk33 <| .nil mixed
def B66 : SchT := []
theorem B66_ok : regsO B66 Try.f66.body = true := by kernel_rfl
theorem F66_ok : FOk Try.prog 66 (FI.of Try.f66 T66 B66) := FOk.of Try.func66 rfl T66_ok B66_ok Try.call66
def T67 : Tab := [(3, ti3), (5, ti5), (22, ti22), (33, ti33)]
theorem T67_ok : TabOk Try.prog T67 := .cons tk3 <| .cons tk5 <| .cons tk22 <| .cons tk33 <| .nil mixed
def B67 : SchT := []
theorem B67_ok : regsO B67 Try.f67.body = true := by kernel_rfl
theorem F67_ok : FOk Try.prog 67 (FI.of Try.f67 T67 B67) := FOk.of Try.func67 rfl T67_ok B67_ok Try.call67
def T68 : Tab := [(5, ti5), (33, ti33)]
theorem T68_ok : TabOk Try.prog T68 := .cons tk5 <| .cons tk33 <| .nil mixed
def B68 : SchT := []
theorem B68_ok : regsO B68 Try.f68.body = true := by kernel_rfl
theorem F68_ok : FOk Try.prog 68 (FI.of Try.f68 T68 B68) := FOk.of Try.func68 rfl T68_ok B68_ok Try.call68
def T69 : Tab := [(3, ti3), (5, ti5), (22, ti22)]
theorem T69_ok : TabOk Try.prog T69 := .cons tk3 <| .cons tk5 <| .cons tk22 <| .nil mixed
def B69 : SchT := []
theorem B69_ok : regsO B69 Try.f69.body = true := by kernel_rfl
theorem F69_ok : FOk Try.prog 69 (FI.of Try.f69 T69 B69) := FOk.of Try.func69 rfl T69_ok B69_ok Try.call69
def T70 : Tab := [(4, ti4), (5, ti5)]
theorem T70_ok : TabOk Try.prog T70 := .cons tk4 <| .cons tk5 <| .nil mixed
def B70 : SchT := []
theorem B70_ok : regsO B70 Try.f70.body = true := by kernel_rfl
theorem F70_ok : FOk Try.prog 70 (FI.of Try.f70 T70 B70) := FOk.of Try.func70 rfl T70_ok B70_ok Try.call70
def T71 : Tab := [(5, ti5)]
theorem T71_ok : TabOk Try.prog T71 := .cons tk5 <| .nil mixed
def B71 : SchT := []
theorem B71_ok : regsO B71 Try.f71.body = true := by kernel_rfl
theorem F71_ok : FOk Try.prog 71 (FI.of Try.f71 T71 B71) := FOk.of Try.func71 rfl T71_ok B71_ok Try.call71
def T73 : Tab := [(3, ti3), (5, ti5), (22, ti22)]
theorem T73_ok : TabOk Try.prog T73 := .cons tk3 <| .cons tk5 <| .cons tk22 <| .nil mixed
def B73 : SchT := []
theorem B73_ok : regsO B73 Try.f73.body = true := by kernel_rfl
theorem F73_ok : FOk Try.prog 73 (FI.of Try.f73 T73 B73) := FOk.of Try.func73 rfl T73_ok B73_ok Try.call73
def T74 : Tab := [(3, ti3), (5, ti5), (22, ti22)]
theorem T74_ok : TabOk Try.prog T74 := .cons tk3 <| .cons tk5 <| .cons tk22 <| .nil mixed
def B74 : SchT := [(4, [(0, some [1]), (1, some [0]), (2, some [0, 1]), (3, some [0, 1, 2]), (4, some [0, 1, 2, 3, 5, 8, 9, 10, 11, 12]), (5, some [0, 1, 2, 3, 4, 8, 9, 10, 11, 12]), (6, some [0, 1, 2, 3, 4, 5, 8, 9, 10, 11, 12]), (8, some [0, 1, 2, 3, 4, 5, 6, 7, 9, 10]), (9, some [0, 1, 2, 3, 4, 5, 6, 7, 8]), (10, some [0, 1, 2, 3, 4, 5, 6, 7, 8, 9]), (11, some [0, 1, 2, 3, 4, 5, 6, 7, 8, 9, 10]), (7, some [0, 1, 2, 3, 4, 5, 6, 8, 9, 10, 11, 12]), (12, none), (13, none), (14, some [0, 1, 2, 3, 4, 5, 6, 7, 8, 9, 10, 11, 12, 13])]), (6, [(0, some [1, 2, 3, 4, 5, 6, 7, 8, 9, 10, 11, 12, 13]), (1, some [0, 2, 3, 4, 5, 6, 7, 8, 9, 10, 11, 12, 13]), (2, some [0, 1, 3, 4, 5, 6, 7, 8, 9, 10, 11, 12, 13, 14, 15]), (3, some [0, 1, 2, 5, 6, 7, 8, 9, 10, 11, 12, 13, 14, 15]), (4, some [0, 1, 2, 3, 5, 6, 7, 8, 9, 10, 11, 12, 13, 14, 15]), (5, some [0, 1, 2, 3, 4, 6, 7, 10, 11, 12, 13]), (6, some [0, 1, 2, 3, 4, 5, 10, 11, 12, 13]), (7, some [0, 1, 2, 3, 4, 5, 6, 10, 11, 12, 13]), (8, some [0, 1, 2, 3, 4, 5, 6, 7, 10, 11, 12, 13]), (10, some [0, 1, 2, 3, 4, 5, 6, 7, 8, 9, 11]), (11, some [0, 1, 2, 3, 4, 5, 6, 7, 8, 9, 10]), (12, some [0, 1, 2, 3, 4, 5, 6, 7, 8, 9, 10, 11]), (9, some [0, 1, 2, 3, 4, 5, 6, 7, 8, 10, 11, 12, 13]), (13, none), (14, some [0, 1, 2, 3, 4, 5, 6, 7, 8, 9, 10, 11, 12, 13]), (15, none), (16, some [0, 1, 2, 3, 4, 5, 6, 7, 8, 9, 10, 11, 12, 13, 14, 15]), (17, none)])]
theorem B74_ok : regsO B74 Try.f74.body = true := by kernel_rfl
theorem F74_ok : FOk Try.prog 74 (FI.of Try.f74 T74 B74) := FOk.of Try.func74 rfl T74_ok B74_ok Try.call74
def T75 : Tab := [(3, ti3), (5, ti5), (22, ti22)]
theorem T75_ok : TabOk Try.prog T75 := .cons tk3 <| .cons tk5 <| .cons tk22 <| .nil mixed
def B75 : SchT := [(10, [(0, some [1, 2, 3, 4, 5, 6, 7, 8, 9, 10, 11, 12, 13, 14, 15]), (1, some [0, 2, 3, 4, 5, 6, 7, 8, 9, 10, 11, 12, 13, 14, 15]), (2, some [0, 1, 3, 4, 5, 6, 7, 8, 9, 10, 11, 12, 13, 14, 15, 16, 17]), (3, some [0, 1, 2, 4, 6, 7, 8, 9, 10, 11, 12, 13, 14, 15, 16, 17]), (4, some [0, 1, 2, 3, 6, 7, 8, 9, 10, 11, 12, 13, 14, 15, 16, 17]), (5, some [0, 1, 2, 3, 4, 6, 7, 8, 9, 10, 11, 12, 13, 14, 15, 16, 17]), (6, some [0, 1, 2, 3, 4, 5, 7, 8, 9, 12, 13, 14, 15]), (7, some [0, 1, 2, 3, 4, 5, 6, 8, 12, 13, 14, 15]), (8, some [0, 1, 2, 3, 4, 5, 6, 7, 12, 13, 14, 15]), (9, some [0, 1, 2, 3, 4, 5, 6, 7, 8, 12, 13, 14, 15]), (10, some [0, 1, 2, 3, 4, 5, 6, 7, 8, 9, 12, 13, 14, 15]), (12, some [0, 1, 2, 3, 4, 5, 6, 7, 8, 9, 10, 11, 13]), (13, some [0, 1, 2, 3, 4, 5, 6, 7, 8, 9, 10, 11, 12]), (14, some [0, 1, 2, 3, 4, 5, 6, 7, 8, 9, 10, 11, 12, 13]), (11, some [0, 1, 2, 3, 4, 5, 6, 7, 8, 9, 10, 12, 13, 14, 15]), (15, none), (16, some [0, 1, 2, 3, 4, 5, 6, 7, 8, 9, 10, 11, 12, 13, 14, 15]), (17, none), (18, some [0, 1, 2, 3, 4, 5, 6, 7, 8, 9, 10, 11, 12, 13, 14, 15, 16, 17]), (19, none)])]
theorem B75_ok : regsO B75 Try.f75.body = true := by kernel_rfl
theorem F75_ok : FOk Try.prog 75 (FI.of Try.f75 T75 B75) := FOk.of Try.func75 rfl T75_ok B75_ok Try.call75
def T76 : Tab := [(3, ti3), (5, ti5), (22, ti22), (74, ti74), (103, ti103)]
theorem T76_ok : TabOk Try.prog T76 := .cons tk3 <| .cons tk5 <| .cons tk22 <| .cons tk74 <| .cons tk103 <| .nil mixed
def B76 : SchT := [(10, [(0, some [1, 2, 3, 4, 5, 6, 7, 8, 9, 10, 11, 12, 13, 14, 15]), (1, some [0, 2, 3, 4, 5, 6, 7, 8, 9, 10, 11, 12, 13, 14, 15]), (2, some [0, 1, 3, 4, 5, 6, 7, 8, 9, 10, 11, 12, 13, 14, 15, 16, 17]), (3, some [0, 1, 2, 4, 6, 7, 8, 9, 10, 11, 12, 13, 14, 15, 16, 17]), (4, some [0, 1, 2, 3, 6, 7, 8, 9, 10, 11, 12, 13, 14, 15, 16, 17]), (5, some [0, 1, 2, 3, 4, 6, 7, 8, 9, 10, 11, 12, 13, 14, 15, 16, 17]), (6, some [0, 1, 2, 3, 4, 5, 7, 8, 9, 12, 13, 14, 15]), (7, some [0, 1, 2, 3, 4, 5, 6, 8, 12, 13, 14, 15]), (8, some [0, 1, 2, 3, 4, 5, 6, 7, 12, 13, 14, 15]), (9, some [0, 1, 2, 3, 4, 5, 6, 7, 8, 12, 13, 14, 15]), (10, some [0, 1, 2, 3, 4, 5, 6, 7, 8, 9, 12, 13, 14, 15]), (12, some [0, 1, 2, 3, 4, 5, 6, 7, 8, 9, 10, 11, 13]), (13, some [0, 1, 2, 3, 4, 5, 6, 7, 8, 9, 10, 11, 12]), (14, some [0, 1, 2, 3, 4, 5, 6, 7, 8, 9, 10, 11, 12, 13]), (11, some [0, 1, 2, 3, 4, 5, 6, 7, 8, 9, 10, 12, 13, 14, 15]), (15, none), (16, some [0, 1, 2, 3, 4, 5, 6, 7, 8, 9, 10, 11, 12, 13, 14, 15]), (17, none), (18, some [0, 1, 2, 3, 4, 5, 6, 7, 8, 9, 10, 11, 12, 13, 14, 15, 16, 17]), (19, none)])]
theorem B76_ok : regsO B76 Try.f76.body = true := by kernel_rfl
theorem F76_ok : FOk Try.prog 76 (FI.of Try.f76 T76 B76) := FOk.of Try.func76 rfl T76_ok B76_ok Try.call76
def T77 : Tab := [(3, ti3), (5, ti5), (22, ti22), (107, ti107)]
theorem T77_ok : TabOk Try.prog T77 := .cons tk3 <| .cons tk5 <| .cons tk22 <| .cons tk107 <| .nil mixed
def B77 : SchT := []
theorem B77_ok : regsO B77 Try.f77.body = true := by kernel_rfl
theorem F77_ok : FOk Try.prog 77 (FI.of Try.f77 T77 B77) := FOk.of Try.func77 rfl T77_ok B77_ok Try.call77
def T78 : Tab := [(3, ti3), (5, ti5), (22, ti22)]
theorem T78_ok : TabOk Try.prog T78 := .cons tk3 <| .cons tk5 <| .cons tk22 <| .nil mixed
def B78 : SchT := [(3, [(0, some [1, 2, 3, 4, 5, 6, 7, 8, 9, 10, 11]), (1, some [0, 2, 3, 4, 5, 6, 7, 8, 9, 10, 11]), (2, some [0, 1, 3, 4, 5, 6, 7, 8, 9, 10, 11, 12, 13]), (3, some [0, 1, 2, 4, 5, 6, 7, 8, 9, 10, 11, 12, 13]), (4, some [0, 1, 2, 3, 5, 8, 9, 10, 11]), (5, some [0, 1, 2, 3, 4, 8, 9, 10, 11]), (6, some [0, 1, 2, 3, 4, 5, 8, 9, 10, 11]), (8, some [0, 1, 2, 3, 4, 5, 6, 7, 9]), (9, some [0, 1, 2, 3, 4, 5, 6, 7, 8]), (10, some [0, 1, 2, 3, 4, 5, 6, 7, 8, 9]), (7, some [0, 1, 2, 3, 4, 5, 6, 8, 9, 10, 11]), (11, none), (12, some [0, 1, 2, 3, 4, 5, 6, 7, 8, 9, 10, 11]), (13, none), (14, some [0, 1, 2, 3, 4, 5, 6, 7, 8, 9, 10, 11, 12, 13]), (15, none)])]
theorem B78_ok : regsO B78 Try.f78.body = true := by kernel_rfl
theorem F78_ok : FOk Try.prog 78 (FI.of Try.f78 T78 B78) := FOk.of Try.func78 rfl T78_ok B78_ok Try.call78
def T79 : Tab := [(3, ti3), (4, ti4), (5, ti5), (22, ti22)]
theorem T79_ok : TabOk Try.prog T79 := .cons tk3 <| .cons tk4 <| .cons tk5 <| .cons tk22 <| .nil mixed
def B79 : SchT := [(5, [(0, some [1]), (1, some [0]), (2, some [0, 1]), (3, some [0, 1, 2]), (4, some [0, 1, 2, 3, 5, 8, 9, 10, 11, 12]), (5, some [0, 1, 2, 3, 4, 8, 9, 10, 11, 12]), (6, some [0, 1, 2, 3, 4, 5, 8, 9, 10, 11, 12]), (8, some [0, 1, 2, 3, 4, 5, 6, 7, 9, 10]), (9, some [0, 1, 2, 3, 4, 5, 6, 7, 8]), (10, some [0, 1, 2, 3, 4, 5, 6, 7, 8, 9]), (11, some [0, 1, 2, 3, 4, 5, 6, 7, 8, 9, 10]), (7, some [0, 1, 2, 3, 4, 5, 6, 8, 9, 10, 11, 12]), (12, none), (13, none), (14, some [0, 1, 2, 3, 4, 5, 6, 7, 8, 9, 10, 11, 12, 13]), (15, some [0, 1, 2, 3, 4, 5, 6, 7, 8, 9, 10, 11, 12, 13, 14])]), (11, [(0, some [1, 2, 3, 4, 5, 6, 7, 8, 9, 10, 11, 12, 13]), (1, some [0, 2, 3, 4, 5, 6, 7, 8, 9, 10, 11, 12, 13]), (2, some [0, 1, 3, 4, 5, 6, 7, 8, 9, 10, 11, 12, 13, 14, 15]), (3, some [0, 1, 2, 5, 6, 7, 8, 9, 10, 11, 12, 13, 14, 15]), (4, some [0, 1, 2, 3, 5, 6, 7, 8, 9, 10, 11, 12, 13, 14, 15]), (5, some [0, 1, 2, 3, 4, 6, 7, 10, 11, 12, 13]), (6, some [0, 1, 2, 3, 4, 5, 10, 11, 12, 13]), (7, some [0, 1, 2, 3, 4, 5, 6, 10, 11, 12, 13]), (8, some [0, 1, 2, 3, 4, 5, 6, 7, 10, 11, 12, 13]), (10, some [0, 1, 2, 3, 4, 5, 6, 7, 8, 9, 11]), (11, some [0, 1, 2, 3, 4, 5, 6, 7, 8, 9, 10]), (12, some [0, 1, 2, 3, 4, 5, 6, 7, 8, 9, 10, 11]), (9, some [0, 1, 2, 3, 4, 5, 6, 7, 8, 10, 11, 12, 13]), (13, none), (14, some [0, 1, 2, 3, 4, 5, 6, 7, 8, 9, 10, 11, 12, 13]), (15, none), (16, some [0, 1, 2, 3, 4, 5, 6, 7, 8, 9, 10, 11, 12, 13, 14, 15]), (17, none)]), (16, [(0, some [1, 4, 5, 6, 7, 8]), (1, some [0, 4, 5, 6, 7, 8]), (2, some [0, 1, 4, 5, 6, 7, 8]), (4, some [0, 1, 2, 3, 5, 6]), (5, some [0, 1, 2, 3, 4]), (6, some [0, 1, 2, 3, 4, 5]), (7, some [0, 1, 2, 3, 4, 5, 6]), (3, some [0, 1, 2, 4, 5, 6, 7, 8]), (8, none), (9, none), (10, some [0, 1, 2, 3, 4, 5, 6, 7, 8, 9])]), (17, [(0, some [1, 2, 3, 4, 5, 6, 7, 8, 9, 10, 11, 12, 13]), (1, some [0, 2, 3, 4, 5, 6, 7, 8, 9, 10, 11, 12, 13]), (2, some [0, 1, 3, 4, 5, 6, 7, 8, 9, 10, 11, 12, 13, 14, 15]), (3, some [0, 1, 2, 5, 6, 7, 8, 9, 10, 11, 12, 13, 14, 15]), (4, some [0, 1, 2, 3, 5, 6, 7, 8, 9, 10, 11, 12, 13, 14, 15]), (5, some [0, 1, 2, 3, 4, 6, 7, 10, 11, 12, 13]), (6, some [0, 1, 2, 3, 4, 5, 10, 11, 12, 13]), (7, some [0, 1, 2, 3, 4, 5, 6, 10, 11, 12, 13]), (8, some [0, 1, 2, 3, 4, 5, 6, 7, 10, 11, 12, 13]), (10, some [0, 1, 2, 3, 4, 5, 6, 7, 8, 9, 11]), (11, some [0, 1, 2, 3, 4, 5, 6, 7, 8, 9, 10]), (12, some [0, 1, 2, 3, 4, 5, 6, 7, 8, 9, 10, 11]), (9, some [0, 1, 2, 3, 4, 5, 6, 7, 8, 10, 11, 12, 13]), (13, none), (14, some [0, 1, 2, 3, 4, 5, 6, 7, 8, 9, 10, 11, 12, 13]), (15, none), (16, some [0, 1, 2, 3, 4, 5, 6, 7, 8, 9, 10, 11, 12, 13, 14, 15]), (17, none)]), (22, [(0, some [1, 4, 5, 6, 7, 8]), (1, some [0, 4, 5, 6, 7, 8]), (2, some [0, 1, 4, 5, 6, 7, 8]), (4, some [0, 1, 2, 3, 5, 6]), (5, some [0, 1, 2, 3, 4]), (6, some [0, 1, 2, 3, 4, 5]), (7, some [0, 1, 2, 3, 4, 5, 6]), (3, some [0, 1, 2, 4, 5, 6, 7, 8]), (8, none), (9, none), (10, some [0, 1, 2, 3, 4, 5, 6, 7, 8, 9])]), (23, [(0, some [1, 2, 3, 4, 5, 6, 7, 8, 9, 10, 11, 12, 13]), (1, some [0, 2, 3, 4, 5, 6, 7, 8, 9, 10, 11, 12, 13]), (2, some [0, 1, 3, 4, 5, 6, 7, 8, 9, 10, 11, 12, 13, 14, 15]), (3, some [0, 1, 2, 5, 6, 7, 8, 9, 10, 11, 12, 13, 14, 15]), (4, some [0, 1, 2, 3, 5, 6, 7, 8, 9, 10, 11, 12, 13, 14, 15]), (5, some [0, 1, 2, 3, 4, 6, 7, 10, 11, 12, 13]), (6, some [0, 1, 2, 3, 4, 5, 10, 11, 12, 13]), (7, some [0, 1, 2, 3, 4, 5, 6, 10, 11, 12, 13]), (8, some [0, 1, 2, 3, 4, 5, 6, 7, 10, 11, 12, 13]), (10, some [0, 1, 2, 3, 4, 5, 6, 7, 8, 9, 11]), (11, some [0, 1, 2, 3, 4, 5, 6, 7, 8, 9, 10]), (12, some [0, 1, 2, 3, 4, 5, 6, 7, 8, 9, 10, 11]), (9, some [0, 1, 2, 3, 4, 5, 6, 7, 8, 10, 11, 12, 13]), (13, none), (14, some [0, 1, 2, 3, 4, 5, 6, 7, 8, 9, 10, 11, 12, 13]), (15, none), (16, some [0, 1, 2, 3, 4, 5, 6, 7, 8, 9, 10, 11, 12, 13, 14, 15]), (17, none)])]
theorem B79_ok : regsO B79 Try.f79.body = true := by kernel_rfl
theorem F79_ok : FOk Try.prog 79 (FI.of Try.f79 T79 B79) := FOk.of Try.func79 rfl T79_ok B79_ok Try.call79
def T80 : Tab := [(3, ti3), (4, ti4), (5, ti5), (22, ti22)]
theorem T80_ok : TabOk Try.prog T80 := .cons tk3 <| .cons tk4 <| .cons tk5 <| .cons tk22 <| .nil mixed
def B80 : SchT := [(1, [(0, some [1, 2, 3, 4, 5, 6, 7, 8, 9, 10, 11]), (1, some [0, 2, 3, 4, 5, 6, 7, 8, 9, 10, 11]), (2, some [0, 1, 3, 4, 5, 6, 7, 8, 9, 10, 11, 12, 13]), (3, some [0, 1, 2, 4, 5, 6, 7, 8, 9, 10, 11, 12, 13]), (4, some [0, 1, 2, 3, 5, 8, 9, 10, 11]), (5, some [0, 1, 2, 3, 4, 8, 9, 10, 11]), (6, some [0, 1, 2, 3, 4, 5, 8, 9, 10, 11]), (8, some [0, 1, 2, 3, 4, 5, 6, 7, 9]), (9, some [0, 1, 2, 3, 4, 5, 6, 7, 8]), (10, some [0, 1, 2, 3, 4, 5, 6, 7, 8, 9]), (7, some [0, 1, 2, 3, 4, 5, 6, 8, 9, 10, 11]), (11, none), (12, some [0, 1, 2, 3, 4, 5, 6, 7, 8, 9, 10, 11]), (13, none), (14, some [0, 1, 2, 3, 4, 5, 6, 7, 8, 9, 10, 11, 12, 13]), (15, none)]), (3, [(0, some [1]), (1, some [0]), (2, some [0, 1]), (3, some [0, 1, 2]), (4, some [0, 1, 2, 3, 5, 8, 9, 10, 11]), (5, some [0, 1, 2, 3, 4, 8, 9, 10, 11]), (6, some [0, 1, 2, 3, 4, 5, 8, 9, 10, 11]), (8, some [0, 1, 2, 3, 4, 5, 6, 7, 9]), (9, some [0, 1, 2, 3, 4, 5, 6, 7, 8]), (10, some [0, 1, 2, 3, 4, 5, 6, 7, 8, 9]), (7, some [0, 1, 2, 3, 4, 5, 6, 8, 9, 10, 11]), (11, none), (12, none), (13, some [0, 1, 2, 3, 4, 5, 6, 7, 8, 9, 10, 11, 12]), (14, some [0, 1, 2, 3, 4, 5, 6, 7, 8, 9, 10, 11, 12, 13])]), (5, [(0, some [1]), (1, some [0]), (2, some [0, 1]), (3, some [0, 1, 2]), (4, some [0, 1, 2, 3, 5, 8, 9, 10, 11]), (5, some [0, 1, 2, 3, 4, 8, 9, 10, 11]), (6, some [0, 1, 2, 3, 4, 5, 8, 9, 10, 11]), (8, some [0, 1, 2, 3, 4, 5, 6, 7, 9]), (9, some [0, 1, 2, 3, 4, 5, 6, 7, 8]), (10, some [0, 1, 2, 3, 4, 5, 6, 7, 8, 9]), (7, some [0, 1, 2, 3, 4, 5, 6, 8, 9, 10, 11]), (11, none), (12, none), (13, some [0, 1, 2, 3, 4, 5, 6, 7, 8, 9, 10, 11, 12])]), (8, [(0, some [1, 2, 3, 4, 5, 6, 7, 8, 9, 10, 11]), (1, some [0, 2, 3, 4, 5, 6, 7, 8, 9, 10, 11]), (2, some [0, 1, 3, 4, 5, 6, 7, 8, 9, 10, 11, 12, 13]), (3, some [0, 1, 2, 4, 5, 6, 7, 8, 9, 10, 11, 12, 13]), (4, some [0, 1, 2, 3, 5, 8, 9, 10, 11]), (5, some [0, 1, 2, 3, 4, 8, 9, 10, 11]), (6, some [0, 1, 2, 3, 4, 5, 8, 9, 10, 11]), (8, some [0, 1, 2, 3, 4, 5, 6, 7, 9]), (9, some [0, 1, 2, 3, 4, 5, 6, 7, 8]), (10, some [0, 1, 2, 3, 4, 5, 6, 7, 8, 9]), (7, some [0, 1, 2, 3, 4, 5, 6, 8, 9, 10, 11]), (11, none), (12, some [0, 1, 2, 3, 4, 5, 6, 7, 8, 9, 10, 11]), (13, none), (14, some [0, 1, 2, 3, 4, 5, 6, 7, 8, 9, 10, 11, 12, 13]), (15, none)])]
theorem B80_ok : regsO B80 Try.f80.body = true := by kernel_rfl
theorem F80_ok : FOk Try.prog 80 (FI.of Try.f80 T80 B80) := FOk.of Try.func80 rfl T80_ok B80_ok Try.call80
def T81 : Tab := [(3, ti3), (4, ti4), (5, ti5), (22, ti22)]
theorem T81_ok : TabOk Try.prog T81 := .cons tk3 <| .cons tk4 <| .cons tk5 <| .cons tk22 <| .nil mixed
def B81 : SchT := [(1, [(0, some [1, 2, 3, 4, 5, 6, 7, 8, 9, 10, 11]), (1, some [0, 2, 3, 4, 5, 6, 7, 8, 9, 10, 11]), (2, some [0, 1, 3, 4, 5, 6, 7, 8, 9, 10, 11, 12, 13]), (3, some [0, 1, 2, 4, 5, 6, 7, 8, 9, 10, 11, 12, 13]), (4, some [0, 1, 2, 3, 5, 8, 9, 10, 11]), (5, some [0, 1, 2, 3, 4, 8, 9, 10, 11]), (6, some [0, 1, 2, 3, 4, 5, 8, 9, 10, 11]), (8, some [0, 1, 2, 3, 4, 5, 6, 7, 9]), (9, some [0, 1, 2, 3, 4, 5, 6, 7, 8]), (10, some [0, 1, 2, 3, 4, 5, 6, 7, 8, 9]), (7, some [0, 1, 2, 3, 4, 5, 6, 8, 9, 10, 11]), (11, none), (12, some [0, 1, 2, 3, 4, 5, 6, 7, 8, 9, 10, 11]), (13, none), (14, some [0, 1, 2, 3, 4, 5, 6, 7, 8, 9, 10, 11, 12, 13]), (15, none)]), (3, [(0, some [1]), (1, some [0]), (2, some [0, 1]), (3, some [0, 1, 2]), (4, some [0, 1, 2, 3, 5, 8, 9, 10, 11]), (5, some [0, 1, 2, 3, 4, 8, 9, 10, 11]), (6, some [0, 1, 2, 3, 4, 5, 8, 9, 10, 11]), (8, some [0, 1, 2, 3, 4, 5, 6, 7, 9]), (9, some [0, 1, 2, 3, 4, 5, 6, 7, 8]), (10, some [0, 1, 2, 3, 4, 5, 6, 7, 8, 9]), (7, some [0, 1, 2, 3, 4, 5, 6, 8, 9, 10, 11]), (11, none), (12, none), (13, some [0, 1, 2, 3, 4, 5, 6, 7, 8, 9, 10, 11, 12])]), (5, [(0, some [1]), (1, some [0]), (2, some [0, 1]), (3, some [0, 1, 2]), (4, some [0, 1, 2, 3, 5, 8, 9, 10, 11]), (5, some [0, 1, 2, 3, 4, 8, 9, 10, 11]), (6, some [0, 1, 2, 3, 4, 5, 8, 9, 10, 11]), (8, some [0, 1, 2, 3, 4, 5, 6, 7, 9]), (9, some [0, 1, 2, 3, 4, 5, 6, 7, 8]), (10, some [0, 1, 2, 3, 4, 5, 6, 7, 8, 9]), (7, some [0, 1, 2, 3, 4, 5, 6, 8, 9, 10, 11]), (11, none), (12, none), (13, some [0, 1, 2, 3, 4, 5, 6, 7, 8, 9, 10, 11, 12]), (14, some [0, 1, 2, 3, 4, 5, 6, 7, 8, 9, 10, 11, 12, 13])]), (8, [(0, some [1, 2, 3, 4, 5, 6, 7, 8, 9, 10, 11]), (1, some [0, 2, 3, 4, 5, 6, 7, 8, 9, 10, 11]), (2, some [0, 1, 3, 4, 5, 6, 7, 8, 9, 10, 11, 12, 13]), (3, some [0, 1, 2, 4, 5, 6, 7, 8, 9, 10, 11, 12, 13]), (4, some [0, 1, 2, 3, 5, 8, 9, 10, 11]), (5, some [0, 1, 2, 3, 4, 8, 9, 10, 11]), (6, some [0, 1, 2, 3, 4, 5, 8, 9, 10, 11]), (8, some [0, 1, 2, 3, 4, 5, 6, 7, 9]), (9, some [0, 1, 2, 3, 4, 5, 6, 7, 8]), (10, some [0, 1, 2, 3, 4, 5, 6, 7, 8, 9]), (7, some [0, 1, 2, 3, 4, 5, 6, 8, 9, 10, 11]), (11, none), (12, some [0, 1, 2, 3, 4, 5, 6, 7, 8, 9, 10, 11]), (13, none), (14, some [0, 1, 2, 3, 4, 5, 6, 7, 8, 9, 10, 11, 12, 13]), (15, none)]), (10, [(0, some [1, 2, 3, 4, 5, 6, 7, 8, 9, 10, 11]), (1, some [0, 2, 3, 4, 5, 6, 7, 8, 9, 10, 11]), (2, some [0, 1, 3, 4, 5, 6, 7, 8, 9, 10, 11, 12, 13]), (3, some [0, 1, 2, 4, 5, 6, 7, 8, 9, 10, 11, 12, 13]), (4, some [0, 1, 2, 3, 5, 8, 9, 10, 11]), (5, some [0, 1, 2, 3, 4, 8, 9, 10, 11]), (6, some [0, 1, 2, 3, 4, 5, 8, 9, 10, 11]), (8, some [0, 1, 2, 3, 4, 5, 6, 7, 9]), (9, some [0, 1, 2, 3, 4, 5, 6, 7, 8]), (10, some [0, 1, 2, 3, 4, 5, 6, 7, 8, 9]), (7, some [0, 1, 2, 3, 4, 5, 6, 8, 9, 10, 11]), (11, none), (12, some [0, 1, 2, 3, 4, 5, 6, 7, 8, 9, 10, 11]), (13, none), (14, some [0, 1, 2, 3, 4, 5, 6, 7, 8, 9, 10, 11, 12, 13]), (15, none)]), (13, [(0, some [1]), (1, some [0]), (2, some [0, 1]), (3, some [0, 1, 2]), (4, some [0, 1, 2, 3, 5, 8, 9, 10, 11]), (5, some [0, 1, 2, 3, 4, 8, 9, 10, 11]), (6, some [0, 1, 2, 3, 4, 5, 8, 9, 10, 11]), (8, some [0, 1, 2, 3, 4, 5, 6, 7, 9]), (9, some [0, 1, 2, 3, 4, 5, 6, 7, 8]), (10, some [0, 1, 2, 3, 4, 5, 6, 7, 8, 9]), (7, some [0, 1, 2, 3, 4, 5, 6, 8, 9, 10, 11]), (11, none), (12, none), (13, some [0, 1, 2, 3, 4, 5, 6, 7, 8, 9, 10, 11, 12])]), (15, [(0, some [1]), (1, some [0]), (2, some [0, 1]), (3, some [0, 1, 2]), (4, some [0, 1, 2, 3, 5, 8, 9, 10, 11]), (5, some [0, 1, 2, 3, 4, 8, 9, 10, 11]), (6, some [0, 1, 2, 3, 4, 5, 8, 9, 10, 11]), (8, some [0, 1, 2, 3, 4, 5, 6, 7, 9]), (9, some [0, 1, 2, 3, 4, 5, 6, 7, 8]), (10, some [0, 1, 2, 3, 4, 5, 6, 7, 8, 9]), (7, some [0, 1, 2, 3, 4, 5, 6, 8, 9, 10, 11]), (11, none), (12, none), (13, some [0, 1, 2, 3, 4, 5, 6, 7, 8, 9, 10, 11, 12]), (14, some [0, 1, 2, 3, 4, 5, 6, 7, 8, 9, 10, 11, 12, 13])]), (18, [(0, some [1, 2, 3, 4, 5, 6, 7, 8, 9, 10, 11]), (1, some [0, 2, 3, 4, 5, 6, 7, 8, 9, 10, 11]), (2, some [0, 1, 3, 4, 5, 6, 7, 8, 9, 10, 11, 12, 13]), (3, some [0, 1, 2, 4, 5, 6, 7, 8, 9, 10, 11, 12, 13]), (4, some [0, 1, 2, 3, 5, 8, 9, 10, 11]), (5, some [0, 1, 2, 3, 4, 8, 9, 10, 11]), (6, some [0, 1, 2, 3, 4, 5, 8, 9, 10, 11]), (8, some [0, 1, 2, 3, 4, 5, 6, 7, 9]), (9, some [0, 1, 2, 3, 4, 5, 6, 7, 8]), (10, some [0, 1, 2, 3, 4, 5, 6, 7, 8, 9]), (7, some [0, 1, 2, 3, 4, 5, 6, 8, 9, 10, 11]), (11, none), (12, some [0, 1, 2, 3, 4, 5, 6, 7, 8, 9, 10, 11]), (13, none), (14, some [0, 1, 2, 3, 4, 5, 6, 7, 8, 9, 10, 11, 12, 13]), (15, none)]), (21, [(0, some [1, 2, 3, 4, 5, 6, 7, 8, 9, 10, 11]), (1, some [0, 2, 3, 4, 5, 6, 7, 8, 9, 10, 11]), (2, some [0, 1, 3, 4, 5, 6, 7, 8, 9, 10, 11, 12, 13]), (3, some [0, 1, 2, 4, 5, 6, 7, 8, 9, 10, 11, 12, 13]), (4, some [0, 1, 2, 3, 5, 8, 9, 10, 11]), (5, some [0, 1, 2, 3, 4, 8, 9, 10, 11]), (6, some [0, 1, 2, 3, 4, 5, 8, 9, 10, 11]), (8, some [0, 1, 2, 3, 4, 5, 6, 7, 9]), (9, some [0, 1, 2, 3, 4, 5, 6, 7, 8]), (10, some [0, 1, 2, 3, 4, 5, 6, 7, 8, 9]), (7, some [0, 1, 2, 3, 4, 5, 6, 8, 9, 10, 11]), (11, none), (12, some [0, 1, 2, 3, 4, 5, 6, 7, 8, 9, 10, 11]), (13, none), (14, some [0, 1, 2, 3, 4, 5, 6, 7, 8, 9, 10, 11, 12, 13]), (15, none)])]
theorem B81_ok : regsO B81 Try.f81.body = true := by kernel_rfl
theorem F81_ok : FOk Try.prog 81 (FI.of Try.f81 T81 B81) := FOk.of Try.func81 rfl T81_ok B81_ok Try.call81
def T82 : Tab := [(3, ti3), (5, ti5), (9, ti9), (94, ti94)]
theorem T82_ok : TabOk Try.prog T82 := .cons tk3 <| .cons tk5 <| .cons tk9 <| .cons tk94 <| .nil mixed
def B82 : SchT := []
theorem B82_ok : regsO B82 Try.f82.body = true := by kernel_rfl
theorem F82_ok : FOk Try.prog 82 (FI.of Try.f82 T82 B82) := FOk.of Try.func82 rfl T82_ok B82_ok Try.call82
def T83 : Tab := [(3, ti3), (5, ti5), (9, ti9), (33, ti33)]
theorem T83_ok : TabOk Try.prog T83 := .cons tk3 <| .cons tk5 <| .cons tk9 <| .cons tk33 <| .nil mixed
def B83 : SchT := []
theorem B83_ok : regsO B83 Try.f83.body = true := by kernel_rfl
theorem F83_ok : FOk Try.prog 83 (FI.of Try.f83 T83 B83) := FOk.of Try.func83 rfl T83_ok B83_ok Try.call83
def T84 : Tab := [(3, ti3), (27, ti27), (52, ti52)]
theorem T84_ok : TabOk Try.prog T84 := .cons tk3 <| .cons tk27 <| .cons tk52 <| .nil mixed
def B84 : SchT := [(4, [(0, some [1]), (1, some [0]), (2, some [0, 1]), (3, some [0, 1, 2]), (4, some [0, 1, 2, 3, 5, 6, 7, 8, 9, 10, 11, 12, 13]), (5, some [0, 1, 2, 3, 4, 6, 9, 10, 11, 12, 13]), (6, some [0, 1, 2, 3, 4, 5, 9, 10, 11, 12, 13]), (7, some [0, 1, 2, 3, 4, 5, 6, 9, 10, 11, 12, 13]), (9, some [0, 1, 2, 3, 4, 5, 6, 7, 8, 10, 11]), (10, some [0, 1, 2, 3, 4, 5, 6, 7, 8, 9]), (11, some [0, 1, 2, 3, 4, 5, 6, 7, 8, 9, 10]), (12, some [0, 1, 2, 3, 4, 5, 6, 7, 8, 9, 10, 11]), (8, some [0, 1, 2, 3, 4, 5, 6, 7, 9, 10, 11, 12, 13]), (13, none), (14, none), (15, some [0, 1, 2, 3, 4, 5, 6, 7, 8, 9, 10, 11, 12, 13, 14]), (16, some [0, 1, 2, 3, 4, 5, 6, 7, 8, 9, 10, 11, 12, 13, 14, 15])]), (6, [(0, some [1, 2, 3, 4, 5, 6, 7, 8, 9, 10, 11, 12, 13]), (1, some [0, 2, 3, 4, 5, 6, 7, 8, 9, 10, 11, 12, 13]), (2, some [0, 1, 3, 4, 5, 6, 7, 8, 9, 10, 11, 12, 13, 14, 15]), (3, some [0, 1, 2, 5, 6, 7, 8, 9, 10, 11, 12, 13, 14, 15]), (4, some [0, 1, 2, 3, 5, 6, 7, 8, 9, 10, 11, 12, 13, 14, 15]), (5, some [0, 1, 2, 3, 4, 6, 7, 10, 11, 12, 13]), (6, some [0, 1, 2, 3, 4, 5, 10, 11, 12, 13]), (7, some [0, 1, 2, 3, 4, 5, 6, 10, 11, 12, 13]), (8, some [0, 1, 2, 3, 4, 5, 6, 7, 10, 11, 12, 13]), (10, some [0, 1, 2, 3, 4, 5, 6, 7, 8, 9, 11]), (11, some [0, 1, 2, 3, 4, 5, 6, 7, 8, 9, 10]), (12, some [0, 1, 2, 3, 4, 5, 6, 7, 8, 9, 10, 11]), (9, some [0, 1, 2, 3, 4, 5, 6, 7, 8, 10, 11, 12, 13]), (13, none), (14, some [0, 1, 2, 3, 4, 5, 6, 7, 8, 9, 10, 11, 12, 13]), (15, none), (16, some [0, 1, 2, 3, 4, 5, 6, 7, 8, 9, 10, 11, 12, 13, 14, 15]), (17, none)])]
theorem B84_ok : regsO B84 Try.f84.body = true := by kernel_rfl
theorem F84_ok : FOk Try.prog 84 (FI.of Try.f84 T84 B84) := FOk.of Try.func84 rfl T84_ok B84_ok Try.call84
def T85 : Tab := [(3, ti3), (27, ti27), (52, ti52), (54, ti54)]
theorem T85_ok : TabOk Try.prog T85 := .cons tk3 <| .cons tk27 <| .cons tk52 <| .cons tk54 <| .nil mixed
def B85 : SchT := [(10, [(0, some [1, 2, 3, 4, 5, 6, 7, 8, 9, 10, 11, 12, 13, 14, 15]), (1, some [0, 2, 3, 4, 5, 6, 7, 8, 9, 10, 11, 12, 13, 14, 15]), (2, some [0, 1, 3, 4, 5, 6, 7, 8, 9, 10, 11, 12, 13, 14, 15, 16, 17]), (3, some [0, 1, 2, 4, 6, 7, 8, 9, 10, 11, 12, 13, 14, 15, 16, 17]), (4, some [0, 1, 2, 3, 6, 7, 8, 9, 10, 11, 12, 13, 14, 15, 16, 17]), (5, some [0, 1, 2, 3, 4, 6, 7, 8, 9, 10, 11, 12, 13, 14, 15, 16, 17]), (6, some [0, 1, 2, 3, 4, 5, 7, 8, 9, 12, 13, 14, 15]), (7, some [0, 1, 2, 3, 4, 5, 6, 8, 12, 13, 14, 15]), (8, some [0, 1, 2, 3, 4, 5, 6, 7, 12, 13, 14, 15]), (9, some [0, 1, 2, 3, 4, 5, 6, 7, 8, 12, 13, 14, 15]), (10, some [0, 1, 2, 3, 4, 5, 6, 7, 8, 9, 12, 13, 14, 15]), (12, some [0, 1, 2, 3, 4, 5, 6, 7, 8, 9, 10, 11, 13]), (13, some [0, 1, 2, 3, 4, 5, 6, 7, 8, 9, 10, 11, 12]), (14, some [0, 1, 2, 3, 4, 5, 6, 7, 8, 9, 10, 11, 12, 13]), (11, some [0, 1, 2, 3, 4, 5, 6, 7, 8, 9, 10, 12, 13, 14, 15]), (15, none), (16, some [0, 1, 2, 3, 4, 5, 6, 7, 8, 9, 10, 11, 12, 13, 14, 15]), (17, none), (18, some [0, 1, 2, 3, 4, 5, 6, 7, 8, 9, 10, 11, 12, 13, 14, 15, 16, 17]), (19, none)])]
theorem B85_ok : regsO B85 Try.f85.body = true := by kernel_rfl
theorem F85_ok : FOk Try.prog 85 (FI.of Try.f85 T85 B85) := FOk.of Try.func85 rfl T85_ok B85_ok Try.call85
def T86 : Tab := [(3, ti3), (27, ti27), (52, ti52), (74, ti74), (103, ti103)]
theorem T86_ok : TabOk Try.prog T86 := .cons tk3 <| .cons tk27 <| .cons tk52 <| .cons tk74 <| .cons tk103 <| .nil mixed
def B86 : SchT := [(10, [(0, some [1, 2, 3, 4, 5, 6, 7, 8, 9, 10, 11, 12, 13, 14, 15]), (1, some [0, 2, 3, 4, 5, 6, 7, 8, 9, 10, 11, 12, 13, 14, 15]), (2, some [0, 1, 3, 4, 5, 6, 7, 8, 9, 10, 11, 12, 13, 14, 15, 16, 17]), (3, some [0, 1, 2, 4, 6, 7, 8, 9, 10, 11, 12, 13, 14, 15, 16, 17]), (4, some [0, 1, 2, 3, 6, 7, 8, 9, 10, 11, 12, 13, 14, 15, 16, 17]), (5, some [0, 1, 2, 3, 4, 6, 7, 8, 9, 10, 11, 12, 13, 14, 15, 16, 17]), (6, some [0, 1, 2, 3, 4, 5, 7, 8, 9, 12, 13, 14, 15]), (7, some [0, 1, 2, 3, 4, 5, 6, 8, 12, 13, 14, 15]), (8, some [0, 1, 2, 3, 4, 5, 6, 7, 12, 13, 14, 15]), (9, some [0, 1, 2, 3, 4, 5, 6, 7, 8, 12, 13, 14, 15]), (10, some [0, 1, 2, 3, 4, 5, 6, 7, 8, 9, 12, 13, 14, 15]), (12, some [0, 1, 2, 3, 4, 5, 6, 7, 8, 9, 10, 11, 13]), (13, some [0, 1, 2, 3, 4, 5, 6, 7, 8, 9, 10, 11, 12]), (14, some [0, 1, 2, 3, 4, 5, 6, 7, 8, 9, 10, 11, 12, 13]), (11, some [0, 1, 2, 3, 4, 5, 6, 7, 8, 9, 10, 12, 13, 14, 15]), (15, none), (16, some [0, 1, 2, 3, 4, 5, 6, 7, 8, 9, 10, 11, 12, 13, 14, 15]), (17, none), (18, some [0, 1, 2, 3, 4, 5, 6, 7, 8, 9, 10, 11, 12, 13, 14, 15, 16, 17]), (19, none)])]
theorem B86_ok : regsO B86 Try.f86.body = true := by kernel_rfl
theorem F86_ok : FOk Try.prog 86 (FI.of Try.f86 T86 B86) := FOk.of Try.func86 rfl T86_ok B86_ok Try.call86
def T87 : Tab := [(3, ti3), (27, ti27), (52, ti52), (54, ti54), (107, ti107)]
theorem T87_ok : TabOk Try.prog T87 := .cons tk3 <| .cons tk27 <| .cons tk52 <| .cons tk54 <| .cons tk107 <| .nil mixed
def B87 : SchT := []
theorem B87_ok : regsO B87 Try.f87.body = true := by kernel_rfl
theorem F87_ok : FOk Try.prog 87 (FI.of Try.f87 T87 B87) := FOk.of Try.func87 rfl T87_ok B87_ok Try.call87
def T88 : Tab := [(3, ti3), (27, ti27), (52, ti52)]
theorem T88_ok : TabOk Try.prog T88 := .cons tk3 <| .cons tk27 <| .cons tk52 <| .nil mixed
def B88 : SchT := [(3, [(0, some [1, 2, 3, 4, 5, 6, 7, 8, 9, 10, 11]), (1, some [0, 2, 3, 4, 5, 6, 7, 8, 9, 10, 11]), (2, some [0, 1, 3, 4, 5, 6, 7, 8, 9, 10, 11, 12, 13]), (3, some [0, 1, 2, 4, 5, 6, 7, 8, 9, 10, 11, 12, 13]), (4, some [0, 1, 2, 3, 5, 8, 9, 10, 11]), (5, some [0, 1, 2, 3, 4, 8, 9, 10, 11]), (6, some [0, 1, 2, 3, 4, 5, 8, 9, 10, 11]), (8, some [0, 1, 2, 3, 4, 5, 6, 7, 9]), (9, some [0, 1, 2, 3, 4, 5, 6, 7, 8]), (10, some [0, 1, 2, 3, 4, 5, 6, 7, 8, 9]), (7, some [0, 1, 2, 3, 4, 5, 6, 8, 9, 10, 11]), (11, none), (12, some [0, 1, 2, 3, 4, 5, 6, 7, 8, 9, 10, 11]), (13, none), (14, some [0, 1, 2, 3, 4, 5, 6, 7, 8, 9, 10, 11, 12, 13]), (15, none)])]
theorem B88_ok : regsO B88 Try.f88.body = true := by kernel_rfl
theorem F88_ok : FOk Try.prog 88 (FI.of Try.f88 T88 B88) := FOk.of Try.func88 rfl T88_ok B88_ok Try.call88
def T89 : Tab := [(3, ti3), (4, ti4), (27, ti27), (52, ti52)]
theorem T89_ok : TabOk Try.prog T89 := .cons tk3 <| .cons tk4 <| .cons tk27 <| .cons tk52 <| .nil mixed
def B89 : SchT := [(5, [(0, some [1]), (1, some [0]), (2, some [0, 1]), (3, some [0, 1, 2]), (4, some [0, 1, 2, 3, 5, 6, 7, 8, 9, 10, 11, 12, 13]), (5, some [0, 1, 2, 3, 4, 6, 9, 10, 11, 12, 13]), (6, some [0, 1, 2, 3, 4, 5, 9, 10, 11, 12, 13]), (7, some [0, 1, 2, 3, 4, 5, 6, 9, 10, 11, 12, 13]), (9, some [0, 1, 2, 3, 4, 5, 6, 7, 8, 10, 11]), (10, some [0, 1, 2, 3, 4, 5, 6, 7, 8, 9]), (11, some [0, 1, 2, 3, 4, 5, 6, 7, 8, 9, 10]), (12, some [0, 1, 2, 3, 4, 5, 6, 7, 8, 9, 10, 11]), (8, some [0, 1, 2, 3, 4, 5, 6, 7, 9, 10, 11, 12, 13]), (13, none), (14, none), (15, some [0, 1, 2, 3, 4, 5, 6, 7, 8, 9, 10, 11, 12, 13, 14]), (16, some [0, 1, 2, 3, 4, 5, 6, 7, 8, 9, 10, 11, 12, 13, 14, 15]), (17, some [0, 1, 2, 3, 4, 5, 6, 7, 8, 9, 10, 11, 12, 13, 14, 15, 16])]), (11, [(0, some [1, 2, 3, 4, 5, 6, 7, 8, 9, 10, 11, 12, 13]), (1, some [0, 2, 3, 4, 5, 6, 7, 8, 9, 10, 11, 12, 13]), (2, some [0, 1, 3, 4, 5, 6, 7, 8, 9, 10, 11, 12, 13, 14, 15]), (3, some [0, 1, 2, 5, 6, 7, 8, 9, 10, 11, 12, 13, 14, 15]), (4, some [0, 1, 2, 3, 5, 6, 7, 8, 9, 10, 11, 12, 13, 14, 15]), (5, some [0, 1, 2, 3, 4, 6, 7, 10, 11, 12, 13]), (6, some [0, 1, 2, 3, 4, 5, 10, 11, 12, 13]), (7, some [0, 1, 2, 3, 4, 5, 6, 10, 11, 12, 13]), (8, some [0, 1, 2, 3, 4, 5, 6, 7, 10, 11, 12, 13]), (10, some [0, 1, 2, 3, 4, 5, 6, 7, 8, 9, 11]), (11, some [0, 1, 2, 3, 4, 5, 6, 7, 8, 9, 10]), (12, some [0, 1, 2, 3, 4, 5, 6, 7, 8, 9, 10, 11]), (9, some [0, 1, 2, 3, 4, 5, 6, 7, 8, 10, 11, 12, 13]), (13, none), (14, some [0, 1, 2, 3, 4, 5, 6, 7, 8, 9, 10, 11, 12, 13]), (15, none), (16, some [0, 1, 2, 3, 4, 5, 6, 7, 8, 9, 10, 11, 12, 13, 14, 15]), (17, none)]), (16, [(0, some [1, 2, 3, 4, 5, 6, 7, 8, 9]), (1, some [0, 2, 5, 6, 7, 8, 9]), (2, some [0, 1, 5, 6, 7, 8, 9]), (3, some [0, 1, 2, 5, 6, 7, 8, 9]), (5, some [0, 1, 2, 3, 4, 6, 7]), (6, some [0, 1, 2, 3, 4, 5]), (7, some [0, 1, 2, 3, 4, 5, 6]), (8, some [0, 1, 2, 3, 4, 5, 6, 7]), (4, some [0, 1, 2, 3, 5, 6, 7, 8, 9]), (9, none), (10, none), (11, some [0, 1, 2, 3, 4, 5, 6, 7, 8, 9, 10]), (12, some [0, 1, 2, 3, 4, 5, 6, 7, 8, 9, 10, 11])]), (17, [(0, some [1, 2, 3, 4, 5, 6, 7, 8, 9, 10, 11, 12, 13]), (1, some [0, 2, 3, 4, 5, 6, 7, 8, 9, 10, 11, 12, 13]), (2, some [0, 1, 3, 4, 5, 6, 7, 8, 9, 10, 11, 12, 13, 14, 15]), (3, some [0, 1, 2, 5, 6, 7, 8, 9, 10, 11, 12, 13, 14, 15]), (4, some [0, 1, 2, 3, 5, 6, 7, 8, 9, 10, 11, 12, 13, 14, 15]), (5, some [0, 1, 2, 3, 4, 6, 7, 10, 11, 12, 13]), (6, some [0, 1, 2, 3, 4, 5, 10, 11, 12, 13]), (7, some [0, 1, 2, 3, 4, 5, 6, 10, 11, 12, 13]), (8, some [0, 1, 2, 3, 4, 5, 6, 7, 10, 11, 12, 13]), (10, some [0, 1, 2, 3, 4, 5, 6, 7, 8, 9, 11]), (11, some [0, 1, 2, 3, 4, 5, 6, 7, 8, 9, 10]), (12, some [0, 1, 2, 3, 4, 5, 6, 7, 8, 9, 10, 11]), (9, some [0, 1, 2, 3, 4, 5, 6, 7, 8, 10, 11, 12, 13]), (13, none), (14, some [0, 1, 2, 3, 4, 5, 6, 7, 8, 9, 10, 11, 12, 13]), (15, none), (16, some [0, 1, 2, 3, 4, 5, 6, 7, 8, 9, 10, 11, 12, 13, 14, 15]), (17, none)]), (22, [(0, some [1, 2, 3, 4, 5, 6, 7, 8, 9]), (1, some [0, 2, 5, 6, 7, 8, 9]), (2, some [0, 1, 5, 6, 7, 8, 9]), (3, some [0, 1, 2, 5, 6, 7, 8, 9]), (5, some [0, 1, 2, 3, 4, 6, 7]), (6, some [0, 1, 2, 3, 4, 5]), (7, some [0, 1, 2, 3, 4, 5, 6]), (8, some [0, 1, 2, 3, 4, 5, 6, 7]), (4, some [0, 1, 2, 3, 5, 6, 7, 8, 9]), (9, none), (10, none), (11, some [0, 1, 2, 3, 4, 5, 6, 7, 8, 9, 10]), (12, some [0, 1, 2, 3, 4, 5, 6, 7, 8, 9, 10, 11])]), (23, [(0, some [1, 2, 3, 4, 5, 6, 7, 8, 9, 10, 11, 12, 13]), (1, some [0, 2, 3, 4, 5, 6, 7, 8, 9, 10, 11, 12, 13]), (2, some [0, 1, 3, 4, 5, 6, 7, 8, 9, 10, 11, 12, 13, 14, 15]), (3, some [0, 1, 2, 5, 6, 7, 8, 9, 10, 11, 12, 13, 14, 15]), (4, some [0, 1, 2, 3, 5, 6, 7, 8, 9, 10, 11, 12, 13, 14, 15]), (5, some [0, 1, 2, 3, 4, 6, 7, 10, 11, 12, 13]), (6, some [0, 1, 2, 3, 4, 5, 10, 11, 12, 13]), (7, some [0, 1, 2, 3, 4, 5, 6, 10, 11, 12, 13]), (8, some [0, 1, 2, 3, 4, 5, 6, 7, 10, 11, 12, 13]), (10, some [0, 1, 2, 3, 4, 5, 6, 7, 8, 9, 11]), (11, some [0, 1, 2, 3, 4, 5, 6, 7, 8, 9, 10]), (12, some [0, 1, 2, 3, 4, 5, 6, 7, 8, 9, 10, 11]), (9, some [0, 1, 2, 3, 4, 5, 6, 7, 8, 10, 11, 12, 13]), (13, none), (14, some [0, 1, 2, 3, 4, 5, 6, 7, 8, 9, 10, 11, 12, 13]), (15, none), (16, some [0, 1, 2, 3, 4, 5, 6, 7, 8, 9, 10, 11, 12, 13, 14, 15]), (17, none)])]
theorem B89_ok : regsO B89 Try.f89.body = true := by kernel_rfl
theorem F89_ok : FOk Try.prog 89 (FI.of Try.f89 T89 B89) := FOk.of Try.func89 rfl T89_ok B89_ok Try.call89
def T90 : Tab := [(3, ti3), (4, ti4), (27, ti27), (52, ti52)]
theorem T90_ok : TabOk Try.prog T90 := .cons tk3 <| .cons tk4 <| .cons tk27 <| .cons tk52 <| .nil mixed
def B90 : SchT := [(1, [(0, some [1, 2, 3, 4, 5, 6, 7, 8, 9, 10, 11]), (1, some [0, 2, 3, 4, 5, 6, 7, 8, 9, 10, 11]), (2, some [0, 1, 3, 4, 5, 6, 7, 8, 9, 10, 11, 12, 13]), (3, some [0, 1, 2, 4, 5, 6, 7, 8, 9, 10, 11, 12, 13]), (4, some [0, 1, 2, 3, 5, 8, 9, 10, 11]), (5, some [0, 1, 2, 3, 4, 8, 9, 10, 11]), (6, some [0, 1, 2, 3, 4, 5, 8, 9, 10, 11]), (8, some [0, 1, 2, 3, 4, 5, 6, 7, 9]), (9, some [0, 1, 2, 3, 4, 5, 6, 7, 8]), (10, some [0, 1, 2, 3, 4, 5, 6, 7, 8, 9]), (7, some [0, 1, 2, 3, 4, 5, 6, 8, 9, 10, 11]), (11, none), (12, some [0, 1, 2, 3, 4, 5, 6, 7, 8, 9, 10, 11]), (13, none), (14, some [0, 1, 2, 3, 4, 5, 6, 7, 8, 9, 10, 11, 12, 13]), (15, none)]), (3, [(0, some [1]), (1, some [0]), (2, some [0, 1]), (3, some [0, 1, 2]), (4, some [0, 1, 2, 3, 5, 6, 7, 8, 9, 10, 11, 12]), (5, some [0, 1, 2, 3, 4, 6, 9, 10, 11, 12]), (6, some [0, 1, 2, 3, 4, 5, 9, 10, 11, 12]), (7, some [0, 1, 2, 3, 4, 5, 6, 9, 10, 11, 12]), (9, some [0, 1, 2, 3, 4, 5, 6, 7, 8, 10]), (10, some [0, 1, 2, 3, 4, 5, 6, 7, 8, 9]), (11, some [0, 1, 2, 3, 4, 5, 6, 7, 8, 9, 10]), (8, some [0, 1, 2, 3, 4, 5, 6, 7, 9, 10, 11, 12]), (12, none), (13, none), (14, some [0, 1, 2, 3, 4, 5, 6, 7, 8, 9, 10, 11, 12, 13]), (15, some [0, 1, 2, 3, 4, 5, 6, 7, 8, 9, 10, 11, 12, 13, 14]), (16, some [0, 1, 2, 3, 4, 5, 6, 7, 8, 9, 10, 11, 12, 13, 14, 15])]), (5, [(0, some [1]), (1, some [0]), (2, some [0, 1]), (3, some [0, 1, 2]), (4, some [0, 1, 2, 3, 5, 6, 7, 8, 9, 10, 11, 12]), (5, some [0, 1, 2, 3, 4, 6, 9, 10, 11, 12]), (6, some [0, 1, 2, 3, 4, 5, 9, 10, 11, 12]), (7, some [0, 1, 2, 3, 4, 5, 6, 9, 10, 11, 12]), (9, some [0, 1, 2, 3, 4, 5, 6, 7, 8, 10]), (10, some [0, 1, 2, 3, 4, 5, 6, 7, 8, 9]), (11, some [0, 1, 2, 3, 4, 5, 6, 7, 8, 9, 10]), (8, some [0, 1, 2, 3, 4, 5, 6, 7, 9, 10, 11, 12]), (12, none), (13, none), (14, some [0, 1, 2, 3, 4, 5, 6, 7, 8, 9, 10, 11, 12, 13]), (15, some [0, 1, 2, 3, 4, 5, 6, 7, 8, 9, 10, 11, 12, 13, 14])]), (8, [(0, some [1, 2, 3, 4, 5, 6, 7, 8, 9, 10, 11]), (1, some [0, 2, 3, 4, 5, 6, 7, 8, 9, 10, 11]), (2, some [0, 1, 3, 4, 5, 6, 7, 8, 9, 10, 11, 12, 13]), (3, some [0, 1, 2, 4, 5, 6, 7, 8, 9, 10, 11, 12, 13]), (4, some [0, 1, 2, 3, 5, 8, 9, 10, 11]), (5, some [0, 1, 2, 3, 4, 8, 9, 10, 11]), (6, some [0, 1, 2, 3, 4, 5, 8, 9, 10, 11]), (8, some [0, 1, 2, 3, 4, 5, 6, 7, 9]), (9, some [0, 1, 2, 3, 4, 5, 6, 7, 8]), (10, some [0, 1, 2, 3, 4, 5, 6, 7, 8, 9]), (7, some [0, 1, 2, 3, 4, 5, 6, 8, 9, 10, 11]), (11, none), (12, some [0, 1, 2, 3, 4, 5, 6, 7, 8, 9, 10, 11]), (13, none), (14, some [0, 1, 2, 3, 4, 5, 6, 7, 8, 9, 10, 11, 12, 13]), (15, none)])]
theorem B90_ok : regsO B90 Try.f90.body = true := by kernel_rfl
theorem F90_ok : FOk Try.prog 90 (FI.of Try.f90 T90 B90) := FOk.of Try.func90 rfl T90_ok B90_ok Try.call90
def T91 : Tab := [(3, ti3), (4, ti4), (27, ti27), (52, ti52)]
theorem T91_ok : TabOk Try.prog T91 := .cons tk3 <| .cons tk4 <| .cons tk27 <| .cons tk52 <| .nil mixed
def B91 : SchT := [(1, [(0, some [1, 2, 3, 4, 5, 6, 7, 8, 9, 10, 11]), (1, some [0, 2, 3, 4, 5, 6, 7, 8, 9, 10, 11]), (2, some [0, 1, 3, 4, 5, 6, 7, 8, 9, 10, 11, 12, 13]), (3, some [0, 1, 2, 4, 5, 6, 7, 8, 9, 10, 11, 12, 13]), (4, some [0, 1, 2, 3, 5, 8, 9, 10, 11]), (5, some [0, 1, 2, 3, 4, 8, 9, 10, 11]), (6, some [0, 1, 2, 3, 4, 5, 8, 9, 10, 11]), (8, some [0, 1, 2, 3, 4, 5, 6, 7, 9]), (9, some [0, 1, 2, 3, 4, 5, 6, 7, 8]), (10, some [0, 1, 2, 3, 4, 5, 6, 7, 8, 9]), (7, some [0, 1, 2, 3, 4, 5, 6, 8, 9, 10, 11]), (11, none), (12, some [0, 1, 2, 3, 4, 5, 6, 7, 8, 9, 10, 11]), (13, none), (14, some [0, 1, 2, 3, 4, 5, 6, 7, 8, 9, 10, 11, 12, 13]), (15, none)]), (3, [(0, some [1]), (1, some [0]), (2, some [0, 1]), (3, some [0, 1, 2]), (4, some [0, 1, 2, 3, 5, 6, 7, 8, 9, 10, 11, 12]), (5, some [0, 1, 2, 3, 4, 6, 9, 10, 11, 12]), (6, some [0, 1, 2, 3, 4, 5, 9, 10, 11, 12]), (7, some [0, 1, 2, 3, 4, 5, 6, 9, 10, 11, 12]), (9, some [0, 1, 2, 3, 4, 5, 6, 7, 8, 10]), (10, some [0, 1, 2, 3, 4, 5, 6, 7, 8, 9]), (11, some [0, 1, 2, 3, 4, 5, 6, 7, 8, 9, 10]), (8, some [0, 1, 2, 3, 4, 5, 6, 7, 9, 10, 11, 12]), (12, none), (13, none), (14, some [0, 1, 2, 3, 4, 5, 6, 7, 8, 9, 10, 11, 12, 13]), (15, some [0, 1, 2, 3, 4, 5, 6, 7, 8, 9, 10, 11, 12, 13, 14])]), (5, [(0, some [1]), (1, some [0]), (2, some [0, 1]), (3, some [0, 1, 2]), (4, some [0, 1, 2, 3, 5, 6, 7, 8, 9, 10, 11, 12]), (5, some [0, 1, 2, 3, 4, 6, 9, 10, 11, 12]), (6, some [0, 1, 2, 3, 4, 5, 9, 10, 11, 12]), (7, some [0, 1, 2, 3, 4, 5, 6, 9, 10, 11, 12]), (9, some [0, 1, 2, 3, 4, 5, 6, 7, 8, 10]), (10, some [0, 1, 2, 3, 4, 5, 6, 7, 8, 9]), (11, some [0, 1, 2, 3, 4, 5, 6, 7, 8, 9, 10]), (8, some [0, 1, 2, 3, 4, 5, 6, 7, 9, 10, 11, 12]), (12, none), (13, none), (14, some [0, 1, 2, 3, 4, 5, 6, 7, 8, 9, 10, 11, 12, 13]), (15, some [0, 1, 2, 3, 4, 5, 6, 7, 8, 9, 10, 11, 12, 13, 14]), (16, some [0, 1, 2, 3, 4, 5, 6, 7, 8, 9, 10, 11, 12, 13, 14, 15])]), (8, [(0, some [1, 2, 3, 4, 5, 6, 7, 8, 9, 10, 11]), (1, some [0, 2, 3, 4, 5, 6, 7, 8, 9, 10, 11]), (2, some [0, 1, 3, 4, 5, 6, 7, 8, 9, 10, 11, 12, 13]), (3, some [0, 1, 2, 4, 5, 6, 7, 8, 9, 10, 11, 12, 13]), (4, some [0, 1, 2, 3, 5, 8, 9, 10, 11]), (5, some [0, 1, 2, 3, 4, 8, 9, 10, 11]), (6, some [0, 1, 2, 3, 4, 5, 8, 9, 10, 11]), (8, some [0, 1, 2, 3, 4, 5, 6, 7, 9]), (9, some [0, 1, 2, 3, 4, 5, 6, 7, 8]), (10, some [0, 1, 2, 3, 4, 5, 6, 7, 8, 9]), (7, some [0, 1, 2, 3, 4, 5, 6, 8, 9, 10, 11]), (11, none), (12, some [0, 1, 2, 3, 4, 5, 6, 7, 8, 9, 10, 11]), (13, none), (14, some [0, 1, 2, 3, 4, 5, 6, 7, 8, 9, 10, 11, 12, 13]), (15, none)]), (10, [(0, some [1, 2, 3, 4, 5, 6, 7, 8, 9, 10, 11]), (1, some [0, 2, 3, 4, 5, 6, 7, 8, 9, 10, 11]), (2, some [0, 1, 3, 4, 5, 6, 7, 8, 9, 10, 11, 12, 13]), (3, some [0, 1, 2, 4, 5, 6, 7, 8, 9, 10, 11, 12, 13]), (4, some [0, 1, 2, 3, 5, 8, 9, 10, 11]), (5, some [0, 1, 2, 3, 4, 8, 9, 10, 11]), (6, some [0, 1, 2, 3, 4, 5, 8, 9, 10, 11]), (8, some [0, 1, 2, 3, 4, 5, 6, 7, 9]), (9, some [0, 1, 2, 3, 4, 5, 6, 7, 8]), (10, some [0, 1, 2, 3, 4, 5, 6, 7, 8, 9]), (7, some [0, 1, 2, 3, 4, 5, 6, 8, 9, 10, 11]), (11, none), (12, some [0, 1, 2, 3, 4, 5, 6, 7, 8, 9, 10, 11]), (13, none), (14, some [0, 1, 2, 3, 4, 5, 6, 7, 8, 9, 10, 11, 12, 13]), (15, none)]), (13, [(0, some [1]), (1, some [0]), (2, some [0, 1]), (3, some [0, 1, 2]), (4, some [0, 1, 2, 3, 5, 6, 7, 8, 9, 10, 11, 12]), (5, some [0, 1, 2, 3, 4, 6, 9, 10, 11, 12]), (6, some [0, 1, 2, 3, 4, 5, 9, 10, 11, 12]), (7, some [0, 1, 2, 3, 4, 5, 6, 9, 10, 11, 12]), (9, some [0, 1, 2, 3, 4, 5, 6, 7, 8, 10]), (10, some [0, 1, 2, 3, 4, 5, 6, 7, 8, 9]), (11, some [0, 1, 2, 3, 4, 5, 6, 7, 8, 9, 10]), (8, some [0, 1, 2, 3, 4, 5, 6, 7, 9, 10, 11, 12]), (12, none), (13, none), (14, some [0, 1, 2, 3, 4, 5, 6, 7, 8, 9, 10, 11, 12, 13]), (15, some [0, 1, 2, 3, 4, 5, 6, 7, 8, 9, 10, 11, 12, 13, 14])]), (15, [(0, some [1]), (1, some [0]), (2, some [0, 1]), (3, some [0, 1, 2]), (4, some [0, 1, 2, 3, 5, 6, 7, 8, 9, 10, 11, 12]), (5, some [0, 1, 2, 3, 4, 6, 9, 10, 11, 12]), (6, some [0, 1, 2, 3, 4, 5, 9, 10, 11, 12]), (7, some [0, 1, 2, 3, 4, 5, 6, 9, 10, 11, 12]), (9, some [0, 1, 2, 3, 4, 5, 6, 7, 8, 10]), (10, some [0, 1, 2, 3, 4, 5, 6, 7, 8, 9]), (11, some [0, 1, 2, 3, 4, 5, 6, 7, 8, 9, 10]), (8, some [0, 1, 2, 3, 4, 5, 6, 7, 9, 10, 11, 12]), (12, none), (13, none), (14, some [0, 1, 2, 3, 4, 5, 6, 7, 8, 9, 10, 11, 12, 13]), (15, some [0, 1, 2, 3, 4, 5, 6, 7, 8, 9, 10, 11, 12, 13, 14]), (16, some [0, 1, 2, 3, 4, 5, 6, 7, 8, 9, 10, 11, 12, 13, 14, 15])]), (18, [(0, some [1, 2, 3, 4, 5, 6, 7, 8, 9, 10, 11]), (1, some [0, 2, 3, 4, 5, 6, 7, 8, 9, 10, 11]), (2, some [0, 1, 3, 4, 5, 6, 7, 8, 9, 10, 11, 12, 13]), (3, some [0, 1, 2, 4, 5, 6, 7, 8, 9, 10, 11, 12, 13]), (4, some [0, 1, 2, 3, 5, 8, 9, 10, 11]), (5, some [0, 1, 2, 3, 4, 8, 9, 10, 11]), (6, some [0, 1, 2, 3, 4, 5, 8, 9, 10, 11]), (8, some [0, 1, 2, 3, 4, 5, 6, 7, 9]), (9, some [0, 1, 2, 3, 4, 5, 6, 7, 8]), (10, some [0, 1, 2, 3, 4, 5, 6, 7, 8, 9]), (7, some [0, 1, 2, 3, 4, 5, 6, 8, 9, 10, 11]), (11, none), (12, some [0, 1, 2, 3, 4, 5, 6, 7, 8, 9, 10, 11]), (13, none), (14, some [0, 1, 2, 3, 4, 5, 6, 7, 8, 9, 10, 11, 12, 13]), (15, none)]), (21, [(0, some [1, 2, 3, 4, 5, 6, 7, 8, 9, 10, 11]), (1, some [0, 2, 3, 4, 5, 6, 7, 8, 9, 10, 11]), (2, some [0, 1, 3, 4, 5, 6, 7, 8, 9, 10, 11, 12, 13]), (3, some [0, 1, 2, 4, 5, 6, 7, 8, 9, 10, 11, 12, 13]), (4, some [0, 1, 2, 3, 5, 8, 9, 10, 11]), (5, some [0, 1, 2, 3, 4, 8, 9, 10, 11]), (6, some [0, 1, 2, 3, 4, 5, 8, 9, 10, 11]), (8, some [0, 1, 2, 3, 4, 5, 6, 7, 9]), (9, some [0, 1, 2, 3, 4, 5, 6, 7, 8]), (10, some [0, 1, 2, 3, 4, 5, 6, 7, 8, 9]), (7, some [0, 1, 2, 3, 4, 5, 6, 8, 9, 10, 11]), (11, none), (12, some [0, 1, 2, 3, 4, 5, 6, 7, 8, 9, 10, 11]), (13, none), (14, some [0, 1, 2, 3, 4, 5, 6, 7, 8, 9, 10, 11, 12, 13]), (15, none)])]
theorem B91_ok : regsO B91 Try.f91.body = true := by kernel_rfl
theorem F91_ok : FOk Try.prog 91 (FI.of Try.f91 T91 B91) := FOk.of Try.func91 rfl T91_ok B91_ok Try.call91
def T92 : Tab := [(33, ti33)]
theorem T92_ok : TabOk Try.prog T92 := .cons tk33 <| .nil mixed
def B92 : SchT := []
theorem B92_ok : regsO B92 Try.f92.body = true := by kernel_rfl
theorem F92_ok : FOk Try.prog 92 (FI.of Try.f92 T92 B92) := FOk.of Try.func92 rfl T92_ok B92_ok Try.call92
def T93 : Tab := [(5, ti5)]
theorem T93_ok : TabOk Try.prog T93 := .cons tk5 <| .nil mixed
def B93 : SchT := []
theorem B93_ok : regsO B93 Try.f93.body = true := by kernel_rfl
theorem F93_ok : FOk Try.prog 93 (FI.of Try.f93 T93 B93) := FOk.of Try.func93 rfl T93_ok B93_ok Try.call93
def T94 : Tab := [(33, ti33)]
theorem T94_ok : TabOk Try.prog T94 := .cons tk33 <| .nil mixed
def B94 : SchT := []
theorem B94_ok : regsO B94 Try.f94.body = true := by kernel_rfl
theorem F94_ok : FOk Try.prog 94 (FI.of Try.f94 T94 B94) := FOk.of Try.func94 rfl T94_ok B94_ok Try.call94
def T95 : Tab := [(5, ti5), (22, ti22)]
theorem T95_ok : TabOk Try.prog T95 := .cons tk5 <| .cons tk22 <| .nil mixed
def B95 : SchT := []
theorem B95_ok : regsO B95 Try.f95.body = true := by kernel_rfl
theorem F95_ok : FOk Try.prog 95 (FI.of Try.f95 T95 B95) := FOk.of Try.func95 rfl T95_ok B95_ok Try.call95
def T96 : Tab := [(3, ti3), (4, ti4), (5, ti5), (22, ti22)]
theorem T96_ok : TabOk Try.prog T96 := .cons tk3 <| .cons tk4 <| .cons tk5 <| .cons tk22 <| .nil mixed
def B96 : SchT := [(3, [(0, some [2]), (1, some [0, 2]), (2, some [0, 1]), (3, some [0, 1, 2]), (4, some [0, 1, 2, 3]), (5, some [0, 1, 2, 3, 4, 6, 7, 8, 11, 12, 13, 14, 15, 16, 17]), (6, some [0, 1, 2, 3, 4, 5, 7, 11, 12, 13, 14, 15, 16, 17]), (7, some [0, 1, 2, 3, 4, 5, 6, 11, 12, 13, 14, 15, 16, 17]), (8, some [0, 1, 2, 3, 4, 5, 6, 7, 11, 12, 13, 14, 15, 16, 17]), (9, some [0, 1, 2, 3, 4, 5, 6, 7, 8, 11, 12, 13, 14, 15, 16, 17]), (11, some [0, 1, 2, 3, 4, 5, 6, 7, 8, 9, 10, 12, 13, 14, 15]), (12, some [0, 1, 2, 3, 4, 5, 6, 7, 8, 9, 10, 11, 13]), (13, some [0, 1, 2, 3, 4, 5, 6, 7, 8, 9, 10, 11, 12]), (14, some [0, 1, 2, 3, 4, 5, 6, 7, 8, 9, 10, 11, 12, 13]), (15, some [0, 1, 2, 3, 4, 5, 6, 7, 8, 9, 10, 11, 12, 13, 14]), (16, some [0, 1, 2, 3, 4, 5, 6, 7, 8, 9, 10, 11, 12, 13, 14, 15]), (10, some [0, 1, 2, 3, 4, 5, 6, 7, 8, 9, 11, 12, 13, 14, 15, 16, 17]), (17, none), (18, none), (19, some [0, 1, 2, 3, 4, 5, 6, 7, 8, 9, 10, 11, 12, 13, 14, 15, 16, 17, 18])]), (5, [(0, some [1, 2, 3, 6, 7, 8, 9, 10, 11]), (1, some [0, 2, 6, 7, 8, 9, 10, 11]), (2, some [0, 1, 6, 7, 8, 9, 10, 11]), (3, some [0, 1, 2, 6, 7, 8, 9, 10, 11]), (4, some [0, 1, 2, 3, 6, 7, 8, 9, 10, 11]), (6, some [0, 1, 2, 3, 4, 5, 7, 8, 9]), (7, some [0, 1, 2, 3, 4, 5, 6, 8]), (8, some [0, 1, 2, 3, 4, 5, 6, 7]), (9, some [0, 1, 2, 3, 4, 5, 6, 7, 8]), (10, some [0, 1, 2, 3, 4, 5, 6, 7, 8, 9]), (5, some [0, 1, 2, 3, 4, 6, 7, 8, 9, 10, 11]), (11, none), (12, none), (13, some [0, 1, 2, 3, 4, 5, 6, 7, 8, 9, 10, 11, 12])]), (6, [(0, some [1, 2, 3, 4, 5, 6, 7, 8, 9, 10, 11, 12, 13, 14, 15, 16, 17, 18, 19]), (1, some [0, 2, 4, 5, 6, 7, 8, 9, 10, 11, 12, 13, 14, 15, 16, 17, 18, 19]), (2, some [0, 1, 4, 5, 6, 7, 8, 9, 10, 11, 12, 13, 14, 15, 16, 17, 18, 19]), (3, some [0, 1, 2, 4, 5, 6, 7, 8, 9, 10, 11, 12, 13, 14, 15, 16, 17, 18, 19]), (4, some [0, 1, 2, 3, 5, 6, 7, 8, 9, 10, 11, 12, 13, 14, 15, 16, 17, 18, 19, 20, 21]), (5, some [0, 1, 2, 3, 4, 6, 8, 9, 10, 11, 12, 13, 14, 15, 16, 17, 18, 19, 20, 21]), (6, some [0, 1, 2, 3, 4, 5, 8, 9, 10, 11, 12, 13, 14, 15, 16, 17, 18, 19, 20, 21]), (7, some [0, 1, 2, 3, 4, 5, 6, 8, 9, 10, 11, 12, 13, 14, 15, 16, 17, 18, 19, 20, 21]), (8, some [0, 1, 2, 3, 4, 5, 6, 7, 9, 10, 11, 14, 15, 16, 17, 18, 19]), (9, some [0, 1, 2, 3, 4, 5, 6, 7, 8, 10, 14, 15, 16, 17, 18, 19]), (10, some [0, 1, 2, 3, 4, 5, 6, 7, 8, 9, 14, 15, 16, 17, 18, 19]), (11, some [0, 1, 2, 3, 4, 5, 6, 7, 8, 9, 10, 14, 15, 16, 17, 18, 19]), (12, some [0, 1, 2, 3, 4, 5, 6, 7, 8, 9, 10, 11, 14, 15, 16, 17, 18, 19]), (14, some [0, 1, 2, 3, 4, 5, 6, 7, 8, 9, 10, 11, 12, 13, 15, 16, 17]), (15, some [0, 1, 2, 3, 4, 5, 6, 7, 8, 9, 10, 11, 12, 13, 14, 16]), (16, some [0, 1, 2, 3, 4, 5, 6, 7, 8, 9, 10, 11, 12, 13, 14, 15]), (17, some [0, 1, 2, 3, 4, 5, 6, 7, 8, 9, 10, 11, 12, 13, 14, 15, 16]), (18, some [0, 1, 2, 3, 4, 5, 6, 7, 8, 9, 10, 11, 12, 13, 14, 15, 16, 17]), (13, some [0, 1, 2, 3, 4, 5, 6, 7, 8, 9, 10, 11, 12, 14, 15, 16, 17, 18, 19]), (19, none), (20, some [0, 1, 2, 3, 4, 5, 6, 7, 8, 9, 10, 11, 12, 13, 14, 15, 16, 17, 18, 19]), (21, none), (22, some [0, 1, 2, 3, 4, 5, 6, 7, 8, 9, 10, 11, 12, 13, 14, 15, 16, 17, 18, 19, 20, 21]), (23, none)])]
theorem B96_ok : regsO B96 Try.f96.body = true := by kernel_rfl
theorem F96_ok : FOk Try.prog 96 (FI.of Try.f96 T96 B96) := FOk.of Try.func96 rfl T96_ok B96_ok Try.call96
def T97 : Tab := [(3, ti3), (74, ti74)]
theorem T97_ok : TabOk Try.prog T97 := .cons tk3 <| .cons tk74 <| .nil mixed
def B97 : SchT := []
theorem B97_ok : regsO B97 Try.f97.body = true := by kernel_rfl
theorem F97_ok : FOk Try.prog 97 (FI.of Try.f97 T97 B97) := FOk.of Try.func97 rfl T97_ok B97_ok Try.call97
def T98 : Tab := [(103, ti103)]
theorem T98_ok : TabOk Try.prog T98 := .cons tk103 <| .nil mixed
def B98 : SchT := [(1, [(0, some [3, 4, 5, 6]), (1, some [0, 3, 4, 5, 6]), (3, some [0, 1, 2]), (4, some [0, 1, 2, 3]), (2, some [0, 1, 3, 4, 5, 6]), (5, none), (6, some [0, 1, 2, 3, 4, 5]), (7, some [0, 1, 2, 3, 4, 5, 6]), (8, some [0, 1, 2, 3, 4, 5, 6, 7]), (9, none)]), (2, [(0, some [3, 4, 5, 6]), (1, some [0, 3, 4, 5, 6]), (3, some [0, 1, 2]), (4, some [0, 1, 2, 3]), (2, some [0, 1, 3, 4, 5, 6]), (5, none), (6, some [0, 1, 2, 3, 4, 5]), (7, some [0, 1, 2, 3, 4, 5, 6]), (8, some [0, 1, 2, 3, 4, 5, 6, 7]), (9, none)]), (3, [(0, some [3, 4, 5, 6]), (1, some [0, 3, 4, 5, 6]), (3, some [0, 1, 2]), (4, some [0, 1, 2, 3]), (2, some [0, 1, 3, 4, 5, 6]), (5, none), (6, some [0, 1, 2, 3, 4, 5]), (7, some [0, 1, 2, 3, 4, 5, 6]), (8, some [0, 1, 2, 3, 4, 5, 6, 7]), (9, none)])]
theorem B98_ok : regsO B98 Try.f98.body = true := by kernel_rfl
theorem F98_ok : FOk Try.prog 98 (FI.of Try.f98 T98 B98) := FOk.of Try.func98 rfl T98_ok B98_ok Try.call98
def T99 : Tab := [(3, ti3), (5, ti5), (22, ti22), (107, ti107)]
theorem T99_ok : TabOk Try.prog T99 := .cons tk3 <| .cons tk5 <| .cons tk22 <| .cons tk107 <| .nil mixed
def B99 : SchT := []
theorem B99_ok : regsO B99 Try.f99.body = true := by kernel_rfl
theorem F99_ok : FOk Try.prog 99 (FI.of Try.f99 T99 B99) := FOk.of Try.func99 rfl T99_ok B99_ok Try.call99
def T100 : Tab := [(3, ti3), (5, ti5), (22, ti22), (107, ti107)]
theorem T100_ok : TabOk Try.prog T100 := .cons tk3 <| .cons tk5 <| .cons tk22 <| .cons tk107 <| .nil mixed
def B100 : SchT := []
theorem B100_ok : regsO B100 Try.f100.body = true := by kernel_rfl
theorem F100_ok : FOk Try.prog 100 (FI.of Try.f100 T100 B100) := FOk.of Try.func100 rfl T100_ok B100_ok Try.call100
def T101 : Tab := [(3, ti3), (4, ti4), (27, ti27), (52, ti52)]
theorem T101_ok : TabOk Try.prog T101 := .cons tk3 <| .cons tk4 <| .cons tk27 <| .cons tk52 <| .nil mixed
def B101 : SchT := [(3, [(0, some [2]), (1, some [0, 2]), (2, some [0, 1]), (3, some [0, 1, 2]), (4, some [0, 1, 2, 3]), (5, some [0, 1, 2, 3, 4, 6, 7, 8, 9, 10, 11, 12, 13, 14, 15, 16, 17, 18]), (6, some [0, 1, 2, 3, 4, 5, 7, 8, 9, 12, 13, 14, 15, 16, 17, 18]), (7, some [0, 1, 2, 3, 4, 5, 6, 8, 12, 13, 14, 15, 16, 17, 18]), (8, some [0, 1, 2, 3, 4, 5, 6, 7, 12, 13, 14, 15, 16, 17, 18]), (9, some [0, 1, 2, 3, 4, 5, 6, 7, 8, 12, 13, 14, 15, 16, 17, 18]), (10, some [0, 1, 2, 3, 4, 5, 6, 7, 8, 9, 12, 13, 14, 15, 16, 17, 18]), (12, some [0, 1, 2, 3, 4, 5, 6, 7, 8, 9, 10, 11, 13, 14, 15, 16]), (13, some [0, 1, 2, 3, 4, 5, 6, 7, 8, 9, 10, 11, 12, 14]), (14, some [0, 1, 2, 3, 4, 5, 6, 7, 8, 9, 10, 11, 12, 13]), (15, some [0, 1, 2, 3, 4, 5, 6, 7, 8, 9, 10, 11, 12, 13, 14]), (16, some [0, 1, 2, 3, 4, 5, 6, 7, 8, 9, 10, 11, 12, 13, 14, 15]), (17, some [0, 1, 2, 3, 4, 5, 6, 7, 8, 9, 10, 11, 12, 13, 14, 15, 16]), (11, some [0, 1, 2, 3, 4, 5, 6, 7, 8, 9, 10, 12, 13, 14, 15, 16, 17, 18]), (18, none), (19, none), (20, some [0, 1, 2, 3, 4, 5, 6, 7, 8, 9, 10, 11, 12, 13, 14, 15, 16, 17, 18, 19]), (21, some [0, 1, 2, 3, 4, 5, 6, 7, 8, 9, 10, 11, 12, 13, 14, 15, 16, 17, 18, 19, 20])]), (5, [(0, some [1, 2, 3, 4, 5, 6, 7, 8, 9, 10, 11, 12]), (1, some [0, 2, 3, 4, 7, 8, 9, 10, 11, 12]), (2, some [0, 1, 3, 7, 8, 9, 10, 11, 12]), (3, some [0, 1, 2, 7, 8, 9, 10, 11, 12]), (4, some [0, 1, 2, 3, 7, 8, 9, 10, 11, 12]), (5, some [0, 1, 2, 3, 4, 7, 8, 9, 10, 11, 12]), (7, some [0, 1, 2, 3, 4, 5, 6, 8, 9, 10]), (8, some [0, 1, 2, 3, 4, 5, 6, 7, 9]), (9, some [0, 1, 2, 3, 4, 5, 6, 7, 8]), (10, some [0, 1, 2, 3, 4, 5, 6, 7, 8, 9]), (11, some [0, 1, 2, 3, 4, 5, 6, 7, 8, 9, 10]), (6, some [0, 1, 2, 3, 4, 5, 7, 8, 9, 10, 11, 12]), (12, none), (13, none), (14, some [0, 1, 2, 3, 4, 5, 6, 7, 8, 9, 10, 11, 12, 13]), (15, some [0, 1, 2, 3, 4, 5, 6, 7, 8, 9, 10, 11, 12, 13, 14])]), (6, [(0, some [1, 2, 3, 4, 5, 6, 7, 8, 9, 10, 11, 12, 13, 14, 15, 16, 17, 18, 19]), (1, some [0, 2, 4, 5, 6, 7, 8, 9, 10, 11, 12, 13, 14, 15, 16, 17, 18, 19]), (2, some [0, 1, 4, 5, 6, 7, 8, 9, 10, 11, 12, 13, 14, 15, 16, 17, 18, 19]), (3, some [0, 1, 2, 4, 5, 6, 7, 8, 9, 10, 11, 12, 13, 14, 15, 16, 17, 18, 19]), (4, some [0, 1, 2, 3, 5, 6, 7, 8, 9, 10, 11, 12, 13, 14, 15, 16, 17, 18, 19, 20, 21]), (5, some [0, 1, 2, 3, 4, 6, 8, 9, 10, 11, 12, 13, 14, 15, 16, 17, 18, 19, 20, 21]), (6, some [0, 1, 2, 3, 4, 5, 8, 9, 10, 11, 12, 13, 14, 15, 16, 17, 18, 19, 20, 21]), (7, some [0, 1, 2, 3, 4, 5, 6, 8, 9, 10, 11, 12, 13, 14, 15, 16, 17, 18, 19, 20, 21]), (8, some [0, 1, 2, 3, 4, 5, 6, 7, 9, 10, 11, 14, 15, 16, 17, 18, 19]), (9, some [0, 1, 2, 3, 4, 5, 6, 7, 8, 10, 14, 15, 16, 17, 18, 19]), (10, some [0, 1, 2, 3, 4, 5, 6, 7, 8, 9, 14, 15, 16, 17, 18, 19]), (11, some [0, 1, 2, 3, 4, 5, 6, 7, 8, 9, 10, 14, 15, 16, 17, 18, 19]), (12, some [0, 1, 2, 3, 4, 5, 6, 7, 8, 9, 10, 11, 14, 15, 16, 17, 18, 19]), (14, some [0, 1, 2, 3, 4, 5, 6, 7, 8, 9, 10, 11, 12, 13, 15, 16, 17]), (15, some [0, 1, 2, 3, 4, 5, 6, 7, 8, 9, 10, 11, 12, 13, 14, 16]), (16, some [0, 1, 2, 3, 4, 5, 6, 7, 8, 9, 10, 11, 12, 13, 14, 15]), (17, some [0, 1, 2, 3, 4, 5, 6, 7, 8, 9, 10, 11, 12, 13, 14, 15, 16]), (18, some [0, 1, 2, 3, 4, 5, 6, 7, 8, 9, 10, 11, 12, 13, 14, 15, 16, 17]), (13, some [0, 1, 2, 3, 4, 5, 6, 7, 8, 9, 10, 11, 12, 14, 15, 16, 17, 18, 19]), (19, none), (20, some [0, 1, 2, 3, 4, 5, 6, 7, 8, 9, 10, 11, 12, 13, 14, 15, 16, 17, 18, 19]), (21, none), (22, some [0, 1, 2, 3, 4, 5, 6, 7, 8, 9, 10, 11, 12, 13, 14, 15, 16, 17, 18, 19, 20, 21]), (23, none)])]
theorem B101_ok : regsO B101 Try.f101.body = true := by kernel_rfl
theorem F101_ok : FOk Try.prog 101 (FI.of Try.f101 T101 B101) := FOk.of Try.func101 rfl T101_ok B101_ok Try.call101
def T102 : Tab := [(3, ti3), (27, ti27), (52, ti52), (54, ti54), (107, ti107)]
theorem T102_ok : TabOk Try.prog T102 := .cons tk3 <| .cons tk27 <| .cons tk52 <| .cons tk54 <| .cons tk107 <| .nil mixed
def B102 : SchT := []
theorem B102_ok : regsO B102 Try.f102.body = true := by kernel_rfl
theorem F102_ok : FOk Try.prog 102 (FI.of Try.f102 T102 B102) := FOk.of Try.func102 rfl T102_ok B102_ok Try.call102
def T103 : Tab := [(3, ti3), (27, ti27), (52, ti52), (54, ti54), (107, ti107)]
theorem T103_ok : TabOk Try.prog T103 := .cons tk3 <| .cons tk27 <| .cons tk52 <| .cons tk54 <| .cons tk107 <| .nil mixed
def B103 : SchT := []
theorem B103_ok : regsO B103 Try.f103.body = true := by kernel_rfl
theorem F103_ok : FOk Try.prog 103 (FI.of Try.f103 T103 B103) := FOk.of Try.func103 rfl T103_ok B103_ok Try.call103
def T104 : Tab := [(3, ti3), (5, ti5), (22, ti22)]
theorem T104_ok : TabOk Try.prog T104 := .cons tk3 <| .cons tk5 <| .cons tk22 <| .nil mixed
def B104 : SchT := [(3, [(0, some [1, 2, 3, 4, 5, 6, 7, 8, 9, 10, 11]), (1, some [0, 2, 3, 4, 5, 6, 7, 8, 9, 10, 11]), (2, some [0, 1, 3, 4, 5, 6, 7, 8, 9, 10, 11, 12, 13]), (3, some [0, 1, 2, 4, 5, 6, 7, 8, 9, 10, 11, 12, 13]), (4, some [0, 1, 2, 3, 5, 8, 9, 10, 11]), (5, some [0, 1, 2, 3, 4, 8, 9, 10, 11]), (6, some [0, 1, 2, 3, 4, 5, 8, 9, 10, 11]), (8, some [0, 1, 2, 3, 4, 5, 6, 7, 9]), (9, some [0, 1, 2, 3, 4, 5, 6, 7, 8]), (10, some [0, 1, 2, 3, 4, 5, 6, 7, 8, 9]), (7, some [0, 1, 2, 3, 4, 5, 6, 8, 9, 10, 11]), (11, none), (12, some [0, 1, 2, 3, 4, 5, 6, 7, 8, 9, 10, 11]), (13, none), (14, some [0, 1, 2, 3, 4, 5, 6, 7, 8, 9, 10, 11, 12, 13]), (15, none)])]
theorem B104_ok : regsO B104 Try.f104.body = true := by kernel_rfl
theorem F104_ok : FOk Try.prog 104 (FI.of Try.f104 T104 B104) := FOk.of Try.func104 rfl T104_ok B104_ok Try.call104
def T105 : Tab := [(3, ti3), (5, ti5), (22, ti22)]
theorem T105_ok : TabOk Try.prog T105 := .cons tk3 <| .cons tk5 <| .cons tk22 <| .nil mixed
def B105 : SchT := [(1, [(0, some [1, 4, 5, 6, 7]), (1, some [0, 4, 5, 6, 7]), (2, some [0, 1, 4, 5, 6, 7]), (4, some [0, 1, 2, 3, 5]), (5, some [0, 1, 2, 3, 4]), (6, some [0, 1, 2, 3, 4, 5]), (3, some [0, 1, 2, 4, 5, 6, 7]), (7, none), (8, none)])]
theorem B105_ok : regsO B105 Try.f105.body = true := by kernel_rfl
theorem F105_ok : FOk Try.prog 105 (FI.of Try.f105 T105 B105) := FOk.of Try.func105 rfl T105_ok B105_ok Try.call105
def T106 : Tab := [(3, ti3), (27, ti27), (52, ti52)]
theorem T106_ok : TabOk Try.prog T106 := .cons tk3 <| .cons tk27 <| .cons tk52 <| .nil mixed
def B106 : SchT := [(1, [(0, some [1, 2, 3, 4, 5, 6, 7, 8]), (1, some [0, 2, 5, 6, 7, 8]), (2, some [0, 1, 5, 6, 7, 8]), (3, some [0, 1, 2, 5, 6, 7, 8]), (5, some [0, 1, 2, 3, 4, 6]), (6, some [0, 1, 2, 3, 4, 5]), (7, some [0, 1, 2, 3, 4, 5, 6]), (4, some [0, 1, 2, 3, 5, 6, 7, 8]), (8, none), (9, none), (10, some [0, 1, 2, 3, 4, 5, 6, 7, 8, 9])])]
theorem B106_ok : regsO B106 Try.f106.body = true := by kernel_rfl
theorem F106_ok : FOk Try.prog 106 (FI.of Try.f106 T106 B106) := FOk.of Try.func106 rfl T106_ok B106_ok Try.call106
noncomputable def FALL : FT := [(2, FI.of Try.f2 T2 B2), (3, FI.of Try.f3 T3 B3), (4, FI.of Try.f4 T4 B4), (5, FI.of Try.f5 T5 B5), (6, FI.of Try.f6 T6 B6), (7, FI.of Try.f7 T7 B7), (8, FI.of Try.f8 T8 B8), (9, FI.of Try.f9 T9 B9), (10, FI.of Try.f10 T10 B10), (11, FI.of Try.f11 T11 B11), (12, FI.of Try.f12 T12 B12), (13, FI.of Try.f13 T13 B13), (14, FI.of Try.f14 T14 B14), (15, FI.of Try.f15 T15 B15), (16, FI.of Try.f16 T16 B16), (17, FI.of Try.f17 T17 B17), (18, FI.of Try.f18 T18 B18), (19, FI.of Try.f19 T19 B19), (20, FI.of Try.f20 T20 B20), (21, FI.of Try.f21 T21 B21), (22, FI.of Try.f22 T22 B22), (23, FI.of Try.f23 T23 B23), (24, FI.of Try.f24 T24 B24), (25, FI.of Try.f25 T25 B25), (26, FI.of Try.f26 T26 B26), (27, FI.of Try.f27 T27 B27), (28, FI.of Try.f28 T28 B28), (29, FI.of Try.f29 T29 B29), (30, FI.of Try.f30 T30 B30), (31, FI.of Try.f31 T31 B31), (32, FI.of Try.f32 T32 B32), (33, FI.of Try.f33 T33 B33), (34, FI.of Try.f34 T34 B34), (35, FI.of Try.f35 T35 B35), (36, FI.of Try.f36 T36 B36), (37, FI.of Try.f37 T37 B37), (38, FI.of Try.f38 T38 B38), (39, FI.of Try.f39 T39 B39), (40, FI.of Try.f40 T40 B40), (41, FI.of Try.f41 T41 B41), (42, FI.of Try.f42 T42 B42), (43, FI.of Try.f43 T43 B43), (44, FI.of Try.f44 T44 B44), (45, FI.of Try.f45 T45 B45), (46, FI.of Try.f46 T46 B46), (47, FI.of Try.f47 T47 B47), (48, FI.of Try.f48 T48 B48), (49, FI.of Try.f49 T49 B49), (50, FI.of Try.f50 T50 B50), (51, FI.of Try.f51 T51 B51), (52, FI.of Try.f52 T52 B52), (53, FI.of Try.f53 T53 B53), (54, FI.of Try.f54 T54 B54), (55, FI.of Try.f55 T55 B55), (56, FI.of Try.f56 T56 B56), (57, FI.of Try.f57 T57 B57), (58, FI.of Try.f58 T58 B58), (59, FI.of Try.f59 T59 B59), (60, FI.of Try.f60 T60 B60), (61, FI.of Try.f61 T61 B61), (62, FI.of Try.f62 T62 B62), (63, FI.of Try.f63 T63 B63), (64, FI.of Try.f64 T64 B64), (65, FI.of Try.f65 T65 B65), (66, FI.of Try.f66 T66 B66), (67, FI.of Try.f67 T67 B67), (68, FI.of Try.f68 T68 B68), (69, FI.of Try.f69 T69 B69), (70, FI.of Try.f70 T70 B70), (71, FI.of Try.f71 T71 B71), (73, FI.of Try.f73 T73 B73), (74, FI.of Try.f74 T74 B74), (75, FI.of Try.f75 T75 B75), (76, FI.of Try.f76 T76 B76), (77, FI.of Try.f77 T77 B77), (78, FI.of Try.f78 T78 B78), (79, FI.of Try.f79 T79 B79), (80, FI.of Try.f80 T80 B80), (81, FI.of Try.f81 T81 B81), (82, FI.of Try.f82 T82 B82), (83, FI.of Try.f83 T83 B83), (84, FI.of Try.f84 T84 B84), (85, FI.of Try.f85 T85 B85), (86, FI.of Try.f86 T86 B86), (87, FI.of Try.f87 T87 B87), (88, FI.of Try.f88 T88 B88), (89, FI.of Try.f89 T89 B89), (90, FI.of Try.f90 T90 B90), (91, FI.of Try.f91 T91 B91), (92, FI.of Try.f92 T92 B92), (93, FI.of Try.f93 T93 B93), (94, FI.of Try.f94 T94 B94), (95, FI.of Try.f95 T95 B95), (96, FI.of Try.f96 T96 B96), (97, FI.of Try.f97 T97 B97), (98, FI.of Try.f98 T98 B98), (99, FI.of Try.f99 T99 B99), (100, FI.of Try.f100 T100 B100), (101, FI.of Try.f101 T101 B101), (102, FI.of Try.f102 T102 B102), (103, FI.of Try.f103 T103 B103), (104, FI.of Try.f104 T104 B104), (105, FI.of Try.f105 T105 B105), (106, FI.of Try.f106 T106 B106)]
theorem FALL_ok : FTok Try.prog FALL := .cons F2_ok <| .cons F3_ok <| .cons F4_ok <| .cons F5_ok <| .cons F6_ok <| .cons F7_ok <| .cons F8_ok <| .cons F9_ok <| .cons F10_ok <| .cons F11_ok <| .cons F12_ok <| .cons F13_ok <| .cons F14_ok <| .cons F15_ok <| .cons F16_ok <| .cons F17_ok <| .cons F18_ok <| .cons F19_ok <| .cons F20_ok <| .cons F21_ok <| .cons F22_ok <| .cons F23_ok <| .cons F24_ok <| .cons F25_ok <| .cons F26_ok <| .cons F27_ok <| .cons F28_ok <| .cons F29_ok <| .cons F30_ok <| .cons F31_ok <| .cons F32_ok <| .cons F33_ok <| .cons F34_ok <| .cons F35_ok <| .cons F36_ok <| .cons F37_ok <| .cons F38_ok <| .cons F39_ok <| .cons F40_ok <| .cons F41_ok <| .cons F42_ok <| .cons F43_ok <| .cons F44_ok <| .cons F45_ok <| .cons F46_ok <| .cons F47_ok <| .cons F48_ok <| .cons F49_ok <| .cons F50_ok <| .cons F51_ok <| .cons F52_ok <| .cons F53_ok <| .cons F54_ok <| .cons F55_ok <| .cons F56_ok <| .cons F57_ok <| .cons F58_ok <| .cons F59_ok <| .cons F60_ok <| .cons F61_ok <| .cons F62_ok <| .cons F63_ok <| .cons F64_ok <| .cons F65_ok <| .cons F66_ok <| .cons F67_ok <| .cons F68_ok <| .cons F69_ok <| .cons F70_ok <| .cons F71_ok <| .cons F73_ok <| .cons F74_ok <| .cons F75_ok <| .cons F76_ok <| .cons F77_ok <| .cons F78_ok <| .cons F79_ok <| .cons F80_ok <| .cons F81_ok <| .cons F82_ok <| .cons F83_ok <| .cons F84_ok <| .cons F85_ok <| .cons F86_ok <| .cons F87_ok <| .cons F88_ok <| .cons F89_ok <| .cons F90_ok <| .cons F91_ok <| .cons F92_ok <| .cons F93_ok <| .cons F94_ok <| .cons F95_ok <| .cons F96_ok <| .cons F97_ok <| .cons F98_ok <| .cons F99_ok <| .cons F100_ok <| .cons F101_ok <| .cons F102_ok <| .cons F103_ok <| .cons F104_ok <| .cons F105_ok <| .cons F106_ok .nil
end Go.Proofs.Ythaffebapmkppaa
