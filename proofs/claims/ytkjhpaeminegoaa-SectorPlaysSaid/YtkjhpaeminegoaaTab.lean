import Derived.Test.YtkjhpaeminegoaaProg
import Derived.Test.YtkjhpaeminegoaaEC

namespace Go.Proofs.Ytkjhpaeminegoaa
open Go.Eng
theorem mixed : Try.prog.follows .mixedOrders = true := by kernel_rfl
def ti3 : TI := ⟨false, 1, 8, [.int .i64 (.lit 0)], .int .i64, none⟩
theorem tk3 : TI.of Try.prog 3 = some ti3 := by kernel_rfl
def ti4 : TI := ⟨false, 1, 1, [.bool (.lit false)], .bool, none⟩
theorem tk4 : TI.of Try.prog 4 = some ti4 := by kernel_rfl
def ti5 : TI := ⟨false, 1, 1, [.int .u8 (.lit 0)], .int .u8, none⟩
theorem tk5 : TI.of Try.prog 5 = some ti5 := by kernel_rfl
def ti9 : TI := ⟨false, 1, 16, [.raw (Value.string { data := #[] })], .string, none⟩
theorem tk9 : TI.of Try.prog 9 = some ti9 := by kernel_rfl
def ti22 : TI := ⟨false, 1, 24, [.raw (Value.slice none 0 0)], .slice 32, none⟩
theorem tk22 : TI.of Try.prog 22 = some ti22 := by kernel_rfl
def ti25 : TI := ⟨false, 1, 8, [.raw (Value.pointer none)], .pointer, none⟩
theorem tk25 : TI.of Try.prog 25 = some ti25 := by kernel_rfl
def ti26 : TI := ⟨false, 1, 8, [.int .i64 (.lit 0)], .int .i64, none⟩
theorem tk26 : TI.of Try.prog 26 = some ti26 := by kernel_rfl
def ti30 : TI := ⟨false, 1, 24, [.raw (Value.slice none 0 0)], .slice 5, none⟩
theorem tk30 : TI.of Try.prog 30 = some ti30 := by kernel_rfl
def ti32 : TI := ⟨true, 6, 56, [.int .i64 (.lit 0), .int .i64 (.lit 0), .int .i64 (.lit 0), .raw (Value.slice none 0 0), .bool (.lit false), .int .u8 (.lit 0)], .struct [(0, 1, false), (1, 1, false), (2, 1, false), (3, 1, false), (4, 1, false), (5, 1, false)], none⟩
theorem tk32 : TI.of Try.prog 32 = some ti32 := by kernel_rfl
def ti40 : TI := ⟨false, 1, 24, [.raw (Value.slice none 0 0)], .slice 9, none⟩
theorem tk40 : TI.of Try.prog 40 = some ti40 := by kernel_rfl
def ti41 : TI := ⟨false, 1, 24, [.raw (Value.slice none 0 0)], .slice 103, none⟩
theorem tk41 : TI.of Try.prog 41 = some ti41 := by kernel_rfl
def ti42 : TI := ⟨false, 1, 8, [.int .u64 (.lit 0)], .int .u64, none⟩
theorem tk42 : TI.of Try.prog 42 = some ti42 := by kernel_rfl
def ti44 : TI := ⟨true, 7, 88, [.int .i64 (.lit 0), .int .i64 (.lit 0), .raw (Value.slice none 0 0), .raw (Value.slice none 0 0), .bool (.lit false), .int .u64 (.lit 0), .int .i64 (.lit 0)], .struct [(0, 1, false), (1, 1, false), (2, 1, false), (3, 1, false), (4, 1, false), (5, 1, false), (6, 1, false)], none⟩
theorem tk44 : TI.of Try.prog 44 = some ti44 := by kernel_rfl
def ti80 : TI := ⟨false, 1, 8, [.raw (Value.map none)], .map 3 30, none⟩
theorem tk80 : TI.of Try.prog 80 = some ti80 := by kernel_rfl
def ti81 : TI := ⟨false, 1, 24, [.raw (Value.slice none 0 0)], .slice 87, none⟩
theorem tk81 : TI.of Try.prog 81 = some ti81 := by kernel_rfl
def ti83 : TI := ⟨true, 8, 80, [.int .i64 (.lit 0), .int .i64 (.lit 0), .raw (Value.map none), .raw (Value.slice none 0 0), .bool (.lit false), .int .u64 (.lit 0), .bool (.lit false), .int .i64 (.lit 0)], .struct [(0, 1, false), (1, 1, false), (2, 1, false), (3, 1, false), (4, 1, false), (5, 1, false), (6, 1, false), (7, 1, false)], none⟩
theorem tk83 : TI.of Try.prog 83 = some ti83 := by kernel_rfl
def ti87 : TI := ⟨true, 2, 32, [.int .i64 (.lit 0), .raw (Value.slice none 0 0)], .struct [(0, 1, false), (1, 1, false)], none⟩
theorem tk87 : TI.of Try.prog 87 = some ti87 := by kernel_rfl
def ti103 : TI := ⟨true, 2, 24, [.int .i64 (.lit 0), .raw (Value.string { data := #[] })], .struct [(0, 1, false), (1, 1, false)], none⟩
theorem tk103 : TI.of Try.prog 103 = some ti103 := by kernel_rfl
def ti113 : TI := ⟨false, 1, 8, [.raw (Value.chan none)], .chan 87, none⟩
theorem tk113 : TI.of Try.prog 113 = some ti113 := by kernel_rfl
def B2 : SchT := []
def T5 : Tab := [(3, ti3), (4, ti4), (5, ti5), (9, ti9), (22, ti22), (25, ti25), (26, ti26), (30, ti30), (32, ti32), (40, ti40), (41, ti41), (42, ti42), (44, ti44), (103, ti103)]
theorem T5_ok : TabOk Try.prog T5 := .cons tk3 <| .cons tk4 <| .cons tk5 <| .cons tk9 <| .cons tk22 <| .cons tk25 <| .cons tk26 <| .cons tk30 <| .cons tk32 <| .cons tk40 <| .cons tk41 <| .cons tk42 <| .cons tk44 <| .cons tk103 <| .nil mixed
def B5 : SchT := [(12, [(0, some []), (1, some [0]), (2, some [0, 1]), (3, some [0, 1, 2, 5, 6]), (5, some [0, 1, 2, 3, 4]), (6, some [0, 1, 2, 3, 4, 5]), (4, none), (7, some [0, 1, 2, 3, 4, 5, 6]), (8, some [0, 1, 2, 3, 4, 5, 6, 7]), (9, some [0, 1, 2, 3, 4, 5, 6, 7, 8]), (10, some [0, 1, 2, 3, 4, 5, 6, 7, 8, 9, 12, 13]), (12, some [0, 1, 2, 3, 4, 5, 6, 7, 8, 9, 10, 11]), (13, some [0, 1, 2, 3, 4, 5, 6, 7, 8, 9, 10, 11, 12]), (11, none), (14, some [0, 1, 2, 3, 4, 5, 6, 7, 8, 9, 10, 11, 12, 13]), (15, some [0, 1, 2, 3, 4, 5, 6, 7, 8, 9, 10, 11, 12, 13, 14]), (16, some [0, 1, 2, 3, 4, 5, 6, 7, 8, 9, 10, 11, 12, 13, 14, 15]), (17, some [0, 1, 2, 3, 4, 5, 6, 7, 8, 9, 10, 11, 12, 13, 14, 15, 16, 19, 20, 21]), (19, some [0, 1, 2, 3, 4, 5, 6, 7, 8, 9, 10, 11, 12, 13, 14, 15, 16, 17, 18]), (20, some [0, 1, 2, 3, 4, 5, 6, 7, 8, 9, 10, 11, 12, 13, 14, 15, 16, 17, 18, 19]), (21, some [0, 1, 2, 3, 4, 5, 6, 7, 8, 9, 10, 11, 12, 13, 14, 15, 16, 17, 18, 19, 20]), (18, none), (22, some [0, 1, 2, 3, 4, 5, 6, 7, 8, 9, 10, 11, 12, 13, 14, 15, 16, 17, 18, 19, 20, 21]), (23, some [0, 1, 2, 3, 4, 5, 6, 7, 8, 9, 10, 11, 12, 13, 14, 15, 16, 17, 18, 19, 20, 21, 22])]), (20, [(0, some []), (1, some [0]), (2, some [0, 1]), (3, some [0, 1, 2, 5, 6, 7, 8, 9]), (4, some [0, 1, 2, 3, 5, 6, 7, 8, 9]), (5, some [0, 1, 2, 3, 4, 7]), (7, some [0, 1, 2, 3, 4, 5, 6]), (6, none), (8, some [0, 1, 2, 3, 4, 5, 6, 7]), (9, none), (10, some [0, 1, 2, 3, 4, 5, 6, 7, 8, 9]), (11, some [0, 1, 2, 3, 4, 5, 6, 7, 8, 9, 10])])]
theorem B5_ok : regsO B5 Try.f5.body = true := by kernel_rfl
theorem F5_ok : FOk Try.prog 5 (FI.of Try.f5 T5 B5) := FOk.of Try.func5 rfl T5_ok B5_ok Try.call5
def T10 : Tab := [(3, ti3), (5, ti5), (22, ti22), (30, ti30), (32, ti32)]
theorem T10_ok : TabOk Try.prog T10 := .cons tk3 <| .cons tk5 <| .cons tk22 <| .cons tk30 <| .cons tk32 <| .nil mixed
def B10 : SchT := []
theorem B10_ok : regsO B10 Try.f10.body = true := by kernel_rfl
theorem F10_ok : FOk Try.prog 10 (FI.of Try.f10 T10 B10) := FOk.of Try.func10 rfl T10_ok B10_ok Try.call10
def T11 : Tab := [(3, ti3), (4, ti4), (5, ti5), (25, ti25), (26, ti26), (30, ti30)]
theorem T11_ok : TabOk Try.prog T11 := .cons tk3 <| .cons tk4 <| .cons tk5 <| .cons tk25 <| .cons tk26 <| .cons tk30 <| .nil mixed
def B11 : SchT := []
theorem B11_ok : regsO B11 Try.f11.body = true := by kernel_rfl
theorem F11_ok : FOk Try.prog 11 (FI.of Try.f11 T11 B11) := FOk.of Try.func11 rfl T11_ok B11_ok Try.call11
def T12 : Tab := [(3, ti3), (5, ti5), (30, ti30), (80, ti80), (83, ti83)]
theorem T12_ok : TabOk Try.prog T12 := .cons tk3 <| .cons tk5 <| .cons tk30 <| .cons tk80 <| .cons tk83 <| .nil mixed
def B12 : SchT := []
theorem B12_ok : regsO B12 Try.f12.body = true := by kernel_rfl
theorem F12_ok : FOk Try.prog 12 (FI.of Try.f12 T12 B12) := FOk.of Try.func12 rfl T12_ok B12_ok Try.call12
def T13 : Tab := [(3, ti3), (4, ti4), (5, ti5), (25, ti25), (26, ti26), (30, ti30), (81, ti81), (83, ti83), (87, ti87)]
theorem T13_ok : TabOk Try.prog T13 := .cons tk3 <| .cons tk4 <| .cons tk5 <| .cons tk25 <| .cons tk26 <| .cons tk30 <| .cons tk81 <| .cons tk83 <| .cons tk87 <| .nil mixed
def B13 : SchT := [(8, [(0, some [1, 2, 3, 4, 5, 6, 7, 8, 9, 10]), (1, some [0, 5, 6, 7, 8, 9]), (2, some [0, 1, 5, 6, 7, 8, 9]), (3, some [0, 1, 2, 5, 6, 7, 8, 9]), (5, some [0, 1, 2, 3, 4, 6, 7]), (6, some [0, 1, 2, 3, 4, 5]), (4, some [0, 1, 2, 3, 5, 6, 7, 8, 9]), (7, none), (8, some [0, 1, 2, 3, 4, 5, 6, 7]), (9, none), (10, none), (11, some [0, 1, 2, 3, 4, 5, 6, 7, 8, 9, 10]), (12, some [0, 1, 2, 3, 4, 5, 6, 7, 8, 9, 10, 11]), (13, none)])]
theorem B13_ok : regsO B13 Try.f13.body = true := by kernel_rfl
theorem F13_ok : FOk Try.prog 13 (FI.of Try.f13 T13 B13) := FOk.of Try.func13 rfl T13_ok B13_ok Try.call13
def T14 : Tab := [(25, ti25), (26, ti26), (81, ti81), (83, ti83), (87, ti87)]
theorem T14_ok : TabOk Try.prog T14 := .cons tk25 <| .cons tk26 <| .cons tk81 <| .cons tk83 <| .cons tk87 <| .nil mixed
def B14 : SchT := []
theorem B14_ok : regsO B14 Try.f14.body = true := by kernel_rfl
theorem F14_ok : FOk Try.prog 14 (FI.of Try.f14 T14 B14) := FOk.of Try.func14 rfl T14_ok B14_ok Try.call14
def T15 : Tab := [(3, ti3), (4, ti4), (5, ti5), (25, ti25), (26, ti26), (30, ti30), (81, ti81), (83, ti83), (87, ti87)]
theorem T15_ok : TabOk Try.prog T15 := .cons tk3 <| .cons tk4 <| .cons tk5 <| .cons tk25 <| .cons tk26 <| .cons tk30 <| .cons tk81 <| .cons tk83 <| .cons tk87 <| .nil mixed
def B15 : SchT := []
theorem B15_ok : regsO B15 Try.f15.body = true := by kernel_rfl
theorem F15_ok : FOk Try.prog 15 (FI.of Try.f15 T15 B15) := FOk.of Try.func15 rfl T15_ok B15_ok Try.call15
def T16 : Tab := [(3, ti3), (4, ti4), (5, ti5), (25, ti25), (30, ti30), (81, ti81), (83, ti83), (87, ti87)]
theorem T16_ok : TabOk Try.prog T16 := .cons tk3 <| .cons tk4 <| .cons tk5 <| .cons tk25 <| .cons tk30 <| .cons tk81 <| .cons tk83 <| .cons tk87 <| .nil mixed
def B16 : SchT := [(2, [(0, some [4, 5, 6, 7, 8, 9, 10, 11]), (1, some [0, 4, 5, 6, 7, 8, 9, 10, 11]), (2, some [0, 1, 4, 5, 6, 7, 8, 9, 10, 11]), (4, some [0, 1, 2, 3, 6, 7, 8, 9, 10]), (5, some [0, 1, 2, 3, 4, 6, 7, 8, 9, 10]), (6, some [0, 1, 2, 3, 4, 5]), (7, some [0, 1, 2, 3, 4, 5, 6]), (8, some [0, 1, 2, 3, 4, 5, 6, 7]), (3, some [0, 1, 2, 4, 5, 6, 7, 8, 9, 10, 11]), (9, none), (10, some [0, 1, 2, 3, 4, 5, 6, 7, 8, 9]), (11, some [0, 1, 2, 3, 4, 5, 6, 7, 8, 9, 10]), (12, some [0, 1, 2, 3, 4, 5, 6, 7, 8, 9, 10, 11]), (13, some [0, 1, 2, 3, 4, 5, 6, 7, 8, 9, 10, 11, 12])]), (6, [(0, some [2, 3, 4, 5, 6, 8, 9, 10, 11, 12, 13, 14, 15, 16, 17]), (2, some [0, 1, 8, 9, 10, 11, 12, 13, 14, 15, 16, 17]), (3, some [0, 1, 2, 8, 9, 10, 11, 12, 13, 14, 15, 16, 17]), (4, some [0, 1, 2, 3, 8, 9, 10, 11, 12, 13, 14, 15, 16, 17]), (8, some [0, 1, 2, 3, 4, 5, 6, 7, 9, 10, 12, 13, 14, 15, 16]), (9, some [0, 1, 2, 3, 4, 5, 6, 7, 8, 12, 13, 14, 15, 16]), (12, some [0, 1, 2, 3, 4, 5, 6, 7, 8, 9, 10, 11]), (13, some [0, 1, 2, 3, 4, 5, 6, 7, 8, 9, 10, 11, 12]), (14, some [0, 1, 2, 3, 4, 5, 6, 7, 8, 9, 10, 11, 12, 13]), (1, some [0, 2, 3, 4, 5, 6, 8, 9, 10, 11, 12, 13, 14, 15, 16, 17]), (5, some [0, 1, 2, 3, 4, 8, 9, 10, 11, 12, 13, 14, 15, 16, 17]), (6, some [0, 1, 2, 3, 4, 5, 8, 9, 10, 11, 12, 13, 14, 15, 16, 17]), (7, some [0, 1, 2, 3, 4, 5, 6, 8, 9, 10, 11, 12, 13, 14, 15, 16, 17]), (10, some [0, 1, 2, 3, 4, 5, 6, 7, 8, 9, 12, 13, 14, 15, 16]), (15, some [0, 1, 2, 3, 4, 5, 6, 7, 8, 9, 10, 11, 12, 13, 14]), (16, some [0, 1, 2, 3, 4, 5, 6, 7, 8, 9, 10, 11, 12, 13, 14, 15]), (11, none), (17, some [0, 1, 2, 3, 4, 5, 6, 7, 8, 9, 10, 11, 12, 13, 14, 15, 16]), (18, none)])]
theorem B16_ok : regsO B16 Try.f16.body = true := by kernel_rfl
theorem F16_ok : FOk Try.prog 16 (FI.of Try.f16 T16 B16) := FOk.of Try.func16 rfl T16_ok B16_ok Try.call16
def T17 : Tab := [(3, ti3), (25, ti25), (83, ti83)]
theorem T17_ok : TabOk Try.prog T17 := .cons tk3 <| .cons tk25 <| .cons tk83 <| .nil mixed
def B17 : SchT := []
theorem B17_ok : regsO B17 Try.f17.body = true := by kernel_rfl
theorem F17_ok : FOk Try.prog 17 (FI.of Try.f17 T17 B17) := FOk.of Try.func17 rfl T17_ok B17_ok Try.call17
def T18 : Tab := [(3, ti3), (25, ti25), (83, ti83)]
theorem T18_ok : TabOk Try.prog T18 := .cons tk3 <| .cons tk25 <| .cons tk83 <| .nil mixed
def B18 : SchT := []
theorem B18_ok : regsO B18 Try.f18.body = true := by kernel_rfl
theorem F18_ok : FOk Try.prog 18 (FI.of Try.f18 T18 B18) := FOk.of Try.func18 rfl T18_ok B18_ok Try.call18
def T19 : Tab := [(3, ti3), (9, ti9), (40, ti40), (44, ti44)]
theorem T19_ok : TabOk Try.prog T19 := .cons tk3 <| .cons tk9 <| .cons tk40 <| .cons tk44 <| .nil mixed
def B19 : SchT := []
theorem B19_ok : regsO B19 Try.f19.body = true := by kernel_rfl
theorem F19_ok : FOk Try.prog 19 (FI.of Try.f19 T19 B19) := FOk.of Try.func19 rfl T19_ok B19_ok Try.call19
def T20 : Tab := [(3, ti3), (4, ti4), (5, ti5), (9, ti9), (25, ti25), (30, ti30), (32, ti32), (42, ti42), (44, ti44)]
theorem T20_ok : TabOk Try.prog T20 := .cons tk3 <| .cons tk4 <| .cons tk5 <| .cons tk9 <| .cons tk25 <| .cons tk30 <| .cons tk32 <| .cons tk42 <| .cons tk44 <| .nil mixed
def B20 : SchT := [(5, [(0, some [2, 9]), (1, some [0, 2, 9]), (2, some [0, 1, 9]), (3, some [0, 1, 2, 9]), (4, some [0, 1, 2, 3, 9]), (5, some [0, 1, 2, 3, 4, 6, 9]), (6, some [0, 1, 2, 3, 4, 5, 9]), (7, some [0, 1, 2, 3, 4, 5, 6, 9]), (8, some [0, 1, 2, 3, 4, 5, 6, 7, 9]), (10, some [0, 1, 2, 3, 4, 5, 6, 7, 8, 9]), (9, none), (11, none)]), (14, [(0, some [1, 3]), (1, some [0, 3]), (2, some [0, 1, 3]), (4, some [0, 1, 2, 3]), (3, none), (5, none)]), (18, [(0, some [1, 3]), (1, some [0, 3]), (2, some [0, 1, 3]), (4, some [0, 1, 2, 3]), (3, none), (5, none)]), (22, [(1, some [0]), (0, none), (2, none)]), (28, [(1, some [0]), (0, none), (2, none)]), (35, [(0, some [1, 3]), (1, some [0, 3]), (2, some [0, 1, 3]), (4, some [0, 1, 2, 3]), (3, none), (5, none)]), (36, [(1, some [0]), (0, none), (2, none)])]
theorem B20_ok : regsO B20 Try.f20.body = true := by kernel_rfl
theorem F20_ok : FOk Try.prog 20 (FI.of Try.f20 T20 B20) := FOk.of Try.func20 rfl T20_ok B20_ok Try.call20
def T21 : Tab := [(4, ti4), (25, ti25), (83, ti83)]
theorem T21_ok : TabOk Try.prog T21 := .cons tk4 <| .cons tk25 <| .cons tk83 <| .nil mixed
def B21 : SchT := []
theorem B21_ok : regsO B21 Try.f21.body = true := by kernel_rfl
theorem F21_ok : FOk Try.prog 21 (FI.of Try.f21 T21 B21) := FOk.of Try.func21 rfl T21_ok B21_ok Try.call21
def T22 : Tab := [(25, ti25), (42, ti42), (83, ti83)]
theorem T22_ok : TabOk Try.prog T22 := .cons tk25 <| .cons tk42 <| .cons tk83 <| .nil mixed
def B22 : SchT := []
theorem B22_ok : regsO B22 Try.f22.body = true := by kernel_rfl
theorem F22_ok : FOk Try.prog 22 (FI.of Try.f22 T22 B22) := FOk.of Try.func22 rfl T22_ok B22_ok Try.call22
def T23 : Tab := [(25, ti25), (81, ti81), (83, ti83), (87, ti87)]
theorem T23_ok : TabOk Try.prog T23 := .cons tk25 <| .cons tk81 <| .cons tk83 <| .cons tk87 <| .nil mixed
def B23 : SchT := []
theorem B23_ok : regsO B23 Try.f23.body = true := by kernel_rfl
theorem F23_ok : FOk Try.prog 23 (FI.of Try.f23 T23 B23) := FOk.of Try.func23 rfl T23_ok B23_ok Try.call23
def T24 : Tab := [(3, ti3), (4, ti4), (9, ti9), (40, ti40), (41, ti41), (44, ti44), (103, ti103)]
theorem T24_ok : TabOk Try.prog T24 := .cons tk3 <| .cons tk4 <| .cons tk9 <| .cons tk40 <| .cons tk41 <| .cons tk44 <| .cons tk103 <| .nil mixed
def B24 : SchT := [(5, [(1, some [0, 2, 3]), (2, some [0, 1]), (3, some [0, 1, 2]), (4, some [0, 1, 2, 3]), (0, none), (5, none), (6, none)]), (7, [(1, some [0, 3, 4, 5, 6, 7, 8, 9, 10, 11, 12, 13, 14, 15, 16, 17, 18, 19]), (3, some [0, 1, 2, 5, 6, 7, 9, 10, 11, 12, 13, 14, 15, 16, 17, 18]), (5, some [0, 1, 2, 3, 4, 9, 10, 11, 12, 13, 14, 15, 16, 17, 18]), (9, some [0, 1, 2, 3, 4, 5, 6, 7, 8, 11, 12, 15, 16, 17]), (11, some [0, 1, 2, 3, 4, 5, 6, 7, 8, 9, 10, 15, 16, 17]), (15, some [0, 1, 2, 3, 4, 5, 6, 7, 8, 9, 10, 11, 12, 13, 14]), (0, some [1, 2, 3, 4, 5, 6, 7, 8, 9, 10, 11, 12, 13, 14, 15, 16, 17, 18, 19, 20, 21]), (2, some [0, 1, 3, 4, 5, 6, 7, 8, 9, 10, 11, 12, 13, 14, 15, 16, 17, 18, 19]), (4, some [0, 1, 2, 3, 5, 6, 7, 9, 10, 11, 12, 13, 14, 15, 16, 17, 18]), (6, some [0, 1, 2, 3, 4, 5, 9, 10, 11, 12, 13, 14, 15, 16, 17, 18]), (7, some [0, 1, 2, 3, 4, 5, 6, 9, 10, 11, 12, 13, 14, 15, 16, 17, 18]), (8, some [0, 1, 2, 3, 4, 5, 6, 7, 9, 10, 11, 12, 13, 14, 15, 16, 17, 18]), (10, some [0, 1, 2, 3, 4, 5, 6, 7, 8, 9, 11, 12, 15, 16, 17]), (12, some [0, 1, 2, 3, 4, 5, 6, 7, 8, 9, 10, 11, 15, 16, 17]), (13, some [0, 1, 2, 3, 4, 5, 6, 7, 8, 9, 10, 11, 12, 15, 16, 17]), (14, some [0, 1, 2, 3, 4, 5, 6, 7, 8, 9, 10, 11, 12, 13, 15, 16, 17]), (16, none), (17, some [0, 1, 2, 3, 4, 5, 6, 7, 8, 9, 10, 11, 12, 13, 14, 15, 16]), (18, some [0, 1, 2, 3, 4, 5, 6, 7, 8, 9, 10, 11, 12, 13, 14, 15, 16, 17]), (19, some [0, 1, 2, 3, 4, 5, 6, 7, 8, 9, 10, 11, 12, 13, 14, 15, 16, 17, 18]), (20, some [0, 1, 2, 3, 4, 5, 6, 7, 8, 9, 10, 11, 12, 13, 14, 15, 16, 17, 18, 19]), (21, none), (22, none), (23, none)])]
theorem B24_ok : regsO B24 Try.f24.body = true := by kernel_rfl
theorem F24_ok : FOk Try.prog 24 (FI.of Try.f24 T24 B24) := FOk.of Try.func24 rfl T24_ok B24_ok Try.call24
def T25 : Tab := [(3, ti3), (4, ti4), (25, ti25), (83, ti83)]
theorem T25_ok : TabOk Try.prog T25 := .cons tk3 <| .cons tk4 <| .cons tk25 <| .cons tk83 <| .nil mixed
def B25 : SchT := []
theorem B25_ok : regsO B25 Try.f25.body = true := by kernel_rfl
theorem F25_ok : FOk Try.prog 25 (FI.of Try.f25 T25 B25) := FOk.of Try.func25 rfl T25_ok B25_ok Try.call25
def T26 : Tab := [(4, ti4), (25, ti25), (42, ti42), (83, ti83)]
theorem T26_ok : TabOk Try.prog T26 := .cons tk4 <| .cons tk25 <| .cons tk42 <| .cons tk83 <| .nil mixed
def B26 : SchT := []
theorem B26_ok : regsO B26 Try.f26.body = true := by kernel_rfl
theorem F26_ok : FOk Try.prog 26 (FI.of Try.f26 T26 B26) := FOk.of Try.func26 rfl T26_ok B26_ok Try.call26
def T27 : Tab := [(3, ti3), (4, ti4), (5, ti5), (25, ti25), (30, ti30), (80, ti80), (83, ti83)]
theorem T27_ok : TabOk Try.prog T27 := .cons tk3 <| .cons tk4 <| .cons tk5 <| .cons tk25 <| .cons tk30 <| .cons tk80 <| .cons tk83 <| .nil mixed
def B27 : SchT := []
theorem B27_ok : regsO B27 Try.f27.body = true := by kernel_rfl
theorem F27_ok : FOk Try.prog 27 (FI.of Try.f27 T27 B27) := FOk.of Try.func27 rfl T27_ok B27_ok Try.call27
def T37 : Tab := [(4, ti4), (25, ti25), (83, ti83)]
theorem T37_ok : TabOk Try.prog T37 := .cons tk4 <| .cons tk25 <| .cons tk83 <| .nil mixed
def B37 : SchT := []
theorem B37_ok : regsO B37 Try.f37.body = true := by kernel_rfl
theorem F37_ok : FOk Try.prog 37 (FI.of Try.f37 T37 B37) := FOk.of Try.func37 rfl T37_ok B37_ok Try.call37
def T38 : Tab := [(3, ti3), (83, ti83)]
theorem T38_ok : TabOk Try.prog T38 := .cons tk3 <| .cons tk83 <| .nil mixed
def B38 : SchT := []
theorem B38_ok : regsO B38 Try.f38.body = true := by kernel_rfl
theorem F38_ok : FOk Try.prog 38 (FI.of Try.f38 T38 B38) := FOk.of Try.func38 rfl T38_ok B38_ok Try.call38
def T39 : Tab := [(5, ti5), (30, ti30)]
theorem T39_ok : TabOk Try.prog T39 := .cons tk5 <| .cons tk30 <| .nil mixed
def B39 : SchT := []
theorem B39_ok : regsO B39 Try.f39.body = true := by kernel_rfl
theorem F39_ok : FOk Try.prog 39 (FI.of Try.f39 T39 B39) := FOk.of Try.func39 rfl T39_ok B39_ok Try.call39
def T40 : Tab := [(3, ti3), (4, ti4), (25, ti25), (83, ti83)]
theorem T40_ok : TabOk Try.prog T40 := .cons tk3 <| .cons tk4 <| .cons tk25 <| .cons tk83 <| .nil mixed
def B40 : SchT := []
theorem B40_ok : regsO B40 Try.f40.body = true := by kernel_rfl
theorem F40_ok : FOk Try.prog 40 (FI.of Try.f40 T40 B40) := FOk.of Try.func40 rfl T40_ok B40_ok Try.call40
def T41 : Tab := [(3, ti3), (5, ti5), (30, ti30), (80, ti80), (81, ti81), (83, ti83), (87, ti87), (113, ti113)]
theorem T41_ok : TabOk Try.prog T41 := .cons tk3 <| .cons tk5 <| .cons tk30 <| .cons tk80 <| .cons tk81 <| .cons tk83 <| .cons tk87 <| .cons tk113 <| .nil mixed
def B41 : SchT := [(10, [(0, some [4, 5, 6, 7]), (1, some [0, 4, 5, 6, 7]), (2, some [0, 1, 4, 5, 6, 7]), (4, some [0, 1, 2, 3, 6, 7]), (6, some [0, 1, 2, 3, 4, 5]), (3, some [0, 1, 2, 4, 5, 6, 7]), (5, some [0, 1, 2, 3, 4, 6, 7]), (7, none), (8, none)])]
theorem B41_ok : regsO B41 Try.f41.body = true := by kernel_rfl
theorem F41_ok : FOk Try.prog 41 (FI.of Try.f41 T41 B41) := FOk.of Try.func41 rfl T41_ok B41_ok Try.call41
def T42 : Tab := [(81, ti81), (87, ti87)]
theorem T42_ok : TabOk Try.prog T42 := .cons tk81 <| .cons tk87 <| .nil mixed
def B42 : SchT := []
theorem B42_ok : regsO B42 Try.f42.body = true := by kernel_rfl
theorem F42_ok : FOk Try.prog 42 (FI.of Try.f42 T42 B42) := FOk.of Try.func42 rfl T42_ok B42_ok Try.call42
def T43 : Tab := [(3, ti3), (5, ti5), (30, ti30), (80, ti80), (83, ti83)]
theorem T43_ok : TabOk Try.prog T43 := .cons tk3 <| .cons tk5 <| .cons tk30 <| .cons tk80 <| .cons tk83 <| .nil mixed
def B43 : SchT := []
theorem B43_ok : regsO B43 Try.f43.body = true := by kernel_rfl
theorem F43_ok : FOk Try.prog 43 (FI.of Try.f43 T43 B43) := FOk.of Try.func43 rfl T43_ok B43_ok Try.call43
def T44 : Tab := [(5, ti5), (9, ti9), (30, ti30)]
theorem T44_ok : TabOk Try.prog T44 := .cons tk5 <| .cons tk9 <| .cons tk30 <| .nil mixed
def B44 : SchT := []
theorem B44_ok : regsO B44 Try.f44.body = true := by kernel_rfl
theorem F44_ok : FOk Try.prog 44 (FI.of Try.f44 T44 B44) := FOk.of Try.func44 rfl T44_ok B44_ok Try.call44
def T45 : Tab := [(3, ti3), (4, ti4), (9, ti9), (40, ti40), (41, ti41), (44, ti44), (103, ti103)]
theorem T45_ok : TabOk Try.prog T45 := .cons tk3 <| .cons tk4 <| .cons tk9 <| .cons tk40 <| .cons tk41 <| .cons tk44 <| .cons tk103 <| .nil mixed
def B45 : SchT := []
theorem B45_ok : regsO B45 Try.f45.body = true := by kernel_rfl
theorem F45_ok : FOk Try.prog 45 (FI.of Try.f45 T45 B45) := FOk.of Try.func45 rfl T45_ok B45_ok Try.call45
def T46 : Tab := [(3, ti3), (4, ti4), (9, ti9), (41, ti41), (44, ti44), (103, ti103)]
theorem T46_ok : TabOk Try.prog T46 := .cons tk3 <| .cons tk4 <| .cons tk9 <| .cons tk41 <| .cons tk44 <| .cons tk103 <| .nil mixed
def B46 : SchT := [(2, [(1, some [0]), (0, none), (2, none)]), (4, [(1, some [0]), (0, none), (2, none)]), (6, [(1, some [0]), (0, none), (2, none)]), (11, [(1, some [0]), (0, none), (2, none)]), (12, [(1, some [0]), (0, none), (2, none)])]
theorem B46_ok : regsO B46 Try.f46.body = true := by kernel_rfl
theorem F46_ok : FOk Try.prog 46 (FI.of Try.f46 T46 B46) := FOk.of Try.func46 rfl T46_ok B46_ok Try.call46
def T47 : Tab := [(4, ti4), (41, ti41), (44, ti44), (103, ti103)]
theorem T47_ok : TabOk Try.prog T47 := .cons tk4 <| .cons tk41 <| .cons tk44 <| .cons tk103 <| .nil mixed
def B47 : SchT := [(2, [(1, some [0]), (0, none), (2, none)]), (5, [(1, some [0]), (0, none), (2, none)]), (8, [(1, some [0]), (0, none), (2, none)])]
theorem B47_ok : regsO B47 Try.f47.body = true := by kernel_rfl
theorem F47_ok : FOk Try.prog 47 (FI.of Try.f47 T47 B47) := FOk.of Try.func47 rfl T47_ok B47_ok Try.call47
def T48 : Tab := [(3, ti3), (5, ti5), (9, ti9), (30, ti30), (40, ti40), (41, ti41), (44, ti44), (103, ti103)]
theorem T48_ok : TabOk Try.prog T48 := .cons tk3 <| .cons tk5 <| .cons tk9 <| .cons tk30 <| .cons tk40 <| .cons tk41 <| .cons tk44 <| .cons tk103 <| .nil mixed
def B48 : SchT := [(2, [(1, some [0]), (0, none), (2, none)])]
theorem B48_ok : regsO B48 Try.f48.body = true := by kernel_rfl
theorem F48_ok : FOk Try.prog 48 (FI.of Try.f48 T48 B48) := FOk.of Try.func48 rfl T48_ok B48_ok Try.call48
def T49 : Tab := [(4, ti4), (42, ti42), (44, ti44)]
theorem T49_ok : TabOk Try.prog T49 := .cons tk4 <| .cons tk42 <| .cons tk44 <| .nil mixed
def B49 : SchT := []
theorem B49_ok : regsO B49 Try.f49.body = true := by kernel_rfl
theorem F49_ok : FOk Try.prog 49 (FI.of Try.f49 T49 B49) := FOk.of Try.func49 rfl T49_ok B49_ok Try.call49
def T50 : Tab := [(3, ti3), (9, ti9), (40, ti40), (41, ti41), (44, ti44), (103, ti103)]
theorem T50_ok : TabOk Try.prog T50 := .cons tk3 <| .cons tk9 <| .cons tk40 <| .cons tk41 <| .cons tk44 <| .cons tk103 <| .nil mixed
def B50 : SchT := [(5, [(0, some [1, 2, 3, 4, 5, 6, 7, 8, 9, 10]), (1, some [0, 2, 6, 7, 8, 9, 10]), (2, some [0, 1, 6, 7, 8, 9, 10]), (3, some [0, 1, 2, 6, 7, 8, 9, 10]), (4, some [0, 1, 2, 3, 6, 7, 8, 9, 10]), (6, some [0, 1, 2, 3, 4, 5, 7]), (7, some [0, 1, 2, 3, 4, 5, 6]), (8, some [0, 1, 2, 3, 4, 5, 6, 7]), (9, some [0, 1, 2, 3, 4, 5, 6, 7, 8]), (5, some [0, 1, 2, 3, 4, 6, 7, 8, 9, 10]), (10, none), (11, some [0, 1, 2, 3, 4, 5, 6, 7, 8, 9, 10]), (12, none)])]
theorem B50_ok : regsO B50 Try.f50.body = true := by kernel_rfl
theorem F50_ok : FOk Try.prog 50 (FI.of Try.f50 T50 B50) := FOk.of Try.func50 rfl T50_ok B50_ok Try.call50
def T65 : Tab := [(3, ti3), (4, ti4), (81, ti81), (87, ti87)]
theorem T65_ok : TabOk Try.prog T65 := .cons tk3 <| .cons tk4 <| .cons tk81 <| .cons tk87 <| .nil mixed
def B65 : SchT := []
theorem B65_ok : regsO B65 Try.f65.body = true := by kernel_rfl
theorem F65_ok : FOk Try.prog 65 (FI.of Try.f65 T65 B65) := FOk.of Try.func65 rfl T65_ok B65_ok Try.call65
def T66 : Tab := [(3, ti3), (44, ti44)]
theorem T66_ok : TabOk Try.prog T66 := .cons tk3 <| .cons tk44 <| .nil mixed
def B66 : SchT := [(2, [(1, some [0]), (0, none), (2, none)]), (6, [(1, some [0]), (0, none), (2, none)])]
theorem B66_ok : regsO B66 Try.f66.body = true := by kernel_rfl
theorem F66_ok : FOk Try.prog 66 (FI.of Try.f66 T66 B66) := FOk.of Try.func66 rfl T66_ok B66_ok Try.call66
noncomputable def FALL : FT := [(5, FI.of Try.f5 T5 B5), (10, FI.of Try.f10 T10 B10), (11, FI.of Try.f11 T11 B11), (12, FI.of Try.f12 T12 B12), (13, FI.of Try.f13 T13 B13), (14, FI.of Try.f14 T14 B14), (15, FI.of Try.f15 T15 B15), (16, FI.of Try.f16 T16 B16), (17, FI.of Try.f17 T17 B17), (18, FI.of Try.f18 T18 B18), (19, FI.of Try.f19 T19 B19), (20, FI.of Try.f20 T20 B20), (21, FI.of Try.f21 T21 B21), (22, FI.of Try.f22 T22 B22), (23, FI.of Try.f23 T23 B23), (24, FI.of Try.f24 T24 B24), (25, FI.of Try.f25 T25 B25), (26, FI.of Try.f26 T26 B26), (27, FI.of Try.f27 T27 B27), (37, FI.of Try.f37 T37 B37), (38, FI.of Try.f38 T38 B38), (39, FI.of Try.f39 T39 B39), (40, FI.of Try.f40 T40 B40), (41, FI.of Try.f41 T41 B41), (42, FI.of Try.f42 T42 B42), (43, FI.of Try.f43 T43 B43), (44, FI.of Try.f44 T44 B44), (45, FI.of Try.f45 T45 B45), (46, FI.of Try.f46 T46 B46), (47, FI.of Try.f47 T47 B47), (48, FI.of Try.f48 T48 B48), (49, FI.of Try.f49 T49 B49), (50, FI.of Try.f50 T50 B50), (65, FI.of Try.f65 T65 B65), (66, FI.of Try.f66 T66 B66)]
theorem FALL_ok : FTok Try.prog FALL := .cons F5_ok <| .cons F10_ok <| .cons F11_ok <| .cons F12_ok <| .cons F13_ok <| .cons F14_ok <| .cons F15_ok <| .cons F16_ok <| .cons F17_ok <| .cons F18_ok <| .cons F19_ok <| .cons F20_ok <| .cons F21_ok <| .cons F22_ok <| .cons F23_ok <| .cons F24_ok <| .cons F25_ok <| .cons F26_ok <| .cons F27_ok <| .cons F37_ok <| .cons F38_ok <| .cons F39_ok <| .cons F40_ok <| .cons F41_ok <| .cons F42_ok <| .cons F43_ok <| .cons F44_ok <| .cons F45_ok <| .cons F46_ok <| .cons F47_ok <| .cons F48_ok <| .cons F49_ok <| .cons F50_ok <| .cons F65_ok <| .cons F66_ok .nil
end Go.Proofs.Ytkjhpaeminegoaa
