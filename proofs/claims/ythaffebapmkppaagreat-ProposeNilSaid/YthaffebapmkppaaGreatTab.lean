/- The seat's types, as the symbolic executor wants them. Written by wip/mktab.py. -/
import Derived.Test.YthaffebapmkppaaGreatProg
import Derived.Test.YthaffebapmkppaaGreatEC

namespace Go.Proofs.YthaffebapmkppaaGreat
open Go.Eng

theorem mixed : Tryz.prog.follows .mixedOrders = true := by kernel_rfl
def ti2 : TI := ⟨false, 1, 8, [.int .i64 (.lit 0)], .int .i64, none⟩
theorem tk2 : TI.of Tryz.prog 2 = some ti2 := by kernel_rfl
def ti3 : TI := ⟨false, 1, 8, [.int .i64 (.lit 0)], .int .i64, none⟩
theorem tk3 : TI.of Tryz.prog 3 = some ti3 := by kernel_rfl
def ti4 : TI := ⟨false, 1, 1, [.bool (.lit false)], .bool, none⟩
theorem tk4 : TI.of Tryz.prog 4 = some ti4 := by kernel_rfl
def ti5 : TI := ⟨false, 1, 1, [.int .u8 (.lit 0)], .int .u8, none⟩
theorem tk5 : TI.of Tryz.prog 5 = some ti5 := by kernel_rfl
def ti9 : TI := ⟨false, 1, 16, [.raw (Value.string { data := #[] })], .string, none⟩
theorem tk9 : TI.of Tryz.prog 9 = some ti9 := by kernel_rfl
def ti22 : TI := ⟨false, 1, 8, [.int .u64 (.lit 0)], .int .u64, none⟩
theorem tk22 : TI.of Tryz.prog 22 = some ti22 := by kernel_rfl
def ti23 : TI := ⟨false, 1, 24, [.raw (Value.slice none 0 0)], .slice 5, none⟩
theorem tk23 : TI.of Tryz.prog 23 = some ti23 := by kernel_rfl
def ti25 : TI := ⟨true, 3, 56, [.int .u64 (.lit 0), .raw (Value.slice none 0 0), .raw (Value.slice none 0 0)], .struct [(0, 1, false), (1, 1, false), (2, 1, false)], none⟩
theorem tk25 : TI.of Tryz.prog 25 = some ti25 := by kernel_rfl
def ti26 : TI := ⟨false, 1, 4, [.int .u32 (.lit 0)], .int .u32, none⟩
theorem tk26 : TI.of Tryz.prog 26 = some ti26 := by kernel_rfl
def ti28 : TI := ⟨true, 3, 16, [.int .u64 (.lit 0), .int .u8 (.lit 0), .int .u32 (.lit 0)], .struct [(0, 1, false), (1, 1, false), (2, 1, false)], some [true, true, true]⟩
theorem tk28 : TI.of Tryz.prog 28 = some ti28 := by kernel_rfl
def ti29 : TI := ⟨false, 1, 24, [.raw (Value.slice none 0 0)], .slice 2, none⟩
theorem tk29 : TI.of Tryz.prog 29 = some ti29 := by kernel_rfl
def ti30 : TI := ⟨false, 1, 24, [.raw (Value.slice none 0 0)], .slice 94, none⟩
theorem tk30 : TI.of Tryz.prog 30 = some ti30 := by kernel_rfl
def ti31 : TI := ⟨false, 1, 24, [.raw (Value.slice none 0 0)], .slice 148, none⟩
theorem tk31 : TI.of Tryz.prog 31 = some ti31 := by kernel_rfl
def ti32 : TI := ⟨false, 1, 24, [.raw (Value.slice none 0 0)], .slice 151, none⟩
theorem tk32 : TI.of Tryz.prog 32 = some ti32 := by kernel_rfl
def ti34 : TI := ⟨true, 8, 128, [.int .u8 (.lit 0), .int .u64 (.lit 0), .int .i64 (.lit 0), .raw (Value.slice none 0 0), .raw (Value.slice none 0 0), .raw (Value.slice none 0 0), .int .u64 (.lit 0), .raw (Value.slice none 0 0)], .struct [(0, 1, false), (1, 1, false), (2, 1, false), (3, 1, false), (4, 1, false), (5, 1, false), (6, 1, false), (7, 1, false)], none⟩
theorem tk34 : TI.of Tryz.prog 34 = some ti34 := by kernel_rfl
def ti35 : TI := ⟨false, 1, 24, [.raw (Value.slice none 0 0)], .slice 52, none⟩
theorem tk35 : TI.of Tryz.prog 35 = some ti35 := by kernel_rfl
def ti41 : TI := ⟨true, 25, 264, [.int .u8 (.lit 0), .int .u64 (.lit 0), .raw (Value.slice none 0 0), .raw (Value.slice none 0 0), .int .u64 (.lit 0), .int .u8 (.lit 0), .int .u32 (.lit 0), .bool (.lit false), .int .u8 (.lit 0), .int .u64 (.lit 0), .int .u64 (.lit 0), .int .u8 (.lit 0), .int .u32 (.lit 0), .int .u8 (.lit 0), .int .u64 (.lit 0), .int .i64 (.lit 0), .raw (Value.slice none 0 0), .raw (Value.slice none 0 0), .raw (Value.slice none 0 0), .int .u64 (.lit 0), .raw (Value.slice none 0 0), .int .u64 (.lit 0), .int .u8 (.lit 0), .int .u32 (.lit 0), .int .u64 (.lit 0)], .struct [(0, 1, false), (1, 3, true), (4, 3, true), (7, 1, false), (8, 1, false), (9, 1, false), (10, 3, true), (13, 8, true), (21, 3, true), (24, 1, false)], none⟩
theorem tk41 : TI.of Tryz.prog 41 = some ti41 := by kernel_rfl
def ti42 : TI := ⟨false, 1, 8, [.int .i64 (.lit 0)], .int .i64, none⟩
theorem tk42 : TI.of Tryz.prog 42 = some ti42 := by kernel_rfl
def ti46 : TI := ⟨true, 15, 168, [.bool (.lit false), .int .u64 (.lit 0), .int .u8 (.lit 0), .int .u32 (.lit 0), .int .u64 (.lit 0), .int .u8 (.lit 0), .int .u32 (.lit 0), .int .u8 (.lit 0), .int .u64 (.lit 0), .int .i64 (.lit 0), .raw (Value.slice none 0 0), .raw (Value.slice none 0 0), .raw (Value.slice none 0 0), .int .u64 (.lit 0), .raw (Value.slice none 0 0)], .struct [(0, 1, false), (1, 3, true), (4, 3, true), (7, 8, true)], none⟩
theorem tk46 : TI.of Tryz.prog 46 = some ti46 := by kernel_rfl
def ti47 : TI := ⟨true, 240, 2688, rep 16 ([.bool (.lit false), .int .u64 (.lit 0), .int .u8 (.lit 0), .int .u32 (.lit 0), .int .u64 (.lit 0), .int .u8 (.lit 0), .int .u32 (.lit 0), .int .u8 (.lit 0), .int .u64 (.lit 0), .int .i64 (.lit 0), .raw (Value.slice none 0 0), .raw (Value.slice none 0 0), .raw (Value.slice none 0 0), .int .u64 (.lit 0), .raw (Value.slice none 0 0)]), .array 16 46, none⟩
theorem tk47 : TI.of Tryz.prog 47 = some ti47 := by kernel_rfl
def ti49 : TI := ⟨true, 245, 2760, (rep 16 ([.bool (.lit false), .int .u64 (.lit 0), .int .u8 (.lit 0), .int .u32 (.lit 0), .int .u64 (.lit 0), .int .u8 (.lit 0), .int .u32 (.lit 0), .int .u8 (.lit 0), .int .u64 (.lit 0), .int .i64 (.lit 0), .raw (Value.slice none 0 0), .raw (Value.slice none 0 0), .raw (Value.slice none 0 0), .int .u64 (.lit 0), .raw (Value.slice none 0 0)])) ++ [.int .u64 (.lit 0), .int .u32 (.lit 0), .int .u64 (.lit 0), .raw (Value.slice none 0 0), .raw (Value.slice none 0 0)], .struct [(0, 240, true), (240, 1, false), (241, 1, false), (242, 3, true)], none⟩
theorem tk49 : TI.of Tryz.prog 49 = some ti49 := by kernel_rfl
def ti52 : TI := ⟨true, 2, 2, [.int .u8 (.lit 0), .bool (.lit false)], .struct [(0, 1, false), (1, 1, false)], some [true, false]⟩
theorem tk52 : TI.of Tryz.prog 52 = some ti52 := by kernel_rfl
def ti53 : TI := ⟨false, 1, 24, [.raw (Value.slice none 0 0)], .slice 56, none⟩
theorem tk53 : TI.of Tryz.prog 53 = some ti53 := by kernel_rfl
def ti56 : TI := ⟨true, 24, 208, [.int .u8 (.lit 0), .int .u8 (.lit 0), .int .u8 (.lit 0), .int .u8 (.lit 0), .int .u64 (.lit 0), .int .u64 (.lit 0), .int .u8 (.lit 0), .int .u32 (.lit 0), .bool (.lit false), .int .u64 (.lit 0), .int .u8 (.lit 0), .int .u32 (.lit 0), .int .u8 (.lit 0), .int .u64 (.lit 0), .int .i64 (.lit 0), .raw (Value.slice none 0 0), .raw (Value.slice none 0 0), .raw (Value.slice none 0 0), .int .u64 (.lit 0), .raw (Value.slice none 0 0), .int .u64 (.lit 0), .int .u8 (.lit 0), .int .u32 (.lit 0), .int .u64 (.lit 0)], .struct [(0, 1, false), (1, 1, false), (2, 1, false), (3, 1, false), (4, 1, false), (5, 3, true), (8, 1, false), (9, 3, true), (12, 8, true), (20, 3, true), (23, 1, false)], none⟩
theorem tk56 : TI.of Tryz.prog 56 = some ti56 := by kernel_rfl
def ti63 : TI := ⟨true, 17, 224, [.int .u64 (.lit 0), .raw (Value.slice none 0 0), .raw (Value.slice none 0 0), .int .u8 (.lit 0), .int .u64 (.lit 0), .int .u8 (.lit 0), .int .u32 (.lit 0), .bool (.lit false), .int .u8 (.lit 0), .int .u64 (.lit 0), .int .i64 (.lit 0), .raw (Value.slice none 0 0), .raw (Value.slice none 0 0), .raw (Value.slice none 0 0), .int .u64 (.lit 0), .raw (Value.slice none 0 0), .bool (.lit false)], .struct [(0, 3, true), (3, 1, false), (4, 3, true), (7, 1, false), (8, 8, true), (16, 1, false)], none⟩
theorem tk63 : TI.of Tryz.prog 63 = some ti63 := by kernel_rfl
def ti73 : TI := ⟨true, 10, 64, [.int .u8 (.lit 0), .int .u8 (.lit 0), .int .u8 (.lit 0), .int .u64 (.lit 0), .int .i64 (.lit 0), .int .i64 (.lit 0), .int .i64 (.lit 0), .int .u8 (.lit 0), .int .u64 (.lit 0), .int .u64 (.lit 0)], .struct [(0, 1, false), (1, 1, false), (2, 1, false), (3, 1, false), (4, 1, false), (5, 1, false), (6, 1, false), (7, 1, false), (8, 1, false), (9, 1, false)], some [true, true, true, true, true, true, true, true, true, true]⟩
theorem tk73 : TI.of Tryz.prog 73 = some ti73 := by kernel_rfl
def ti74 : TI := ⟨false, 1, 8, [.raw (Value.pointer none)], .pointer, none⟩
theorem tk74 : TI.of Tryz.prog 74 = some ti74 := by kernel_rfl
def ti77 : TI := ⟨false, 1, 24, [.raw (Value.slice none 0 0)], .slice 132, none⟩
theorem tk77 : TI.of Tryz.prog 77 = some ti77 := by kernel_rfl
def ti82 : TI := ⟨true, 12, 80, [.int .u64 (.lit 0), .int .u8 (.lit 0), .int .u8 (.lit 0), .int .u8 (.lit 0), .int .u64 (.lit 0), .int .i64 (.lit 0), .int .i64 (.lit 0), .int .i64 (.lit 0), .int .u8 (.lit 0), .int .u64 (.lit 0), .int .u64 (.lit 0), .bool (.lit false)], .struct [(0, 1, false), (1, 10, true), (11, 1, false)], some [true, true, true, true, true, true, true, true, true, true, true, false]⟩
theorem tk82 : TI.of Tryz.prog 82 = some ti82 := by kernel_rfl
def ti92 : TI := ⟨true, 4, 48, [.int .i64 (.lit 0), .int .u64 (.lit 0), .int .i64 (.lit 0), .raw (Value.slice none 0 0)], .struct [(0, 1, false), (1, 1, false), (2, 1, false), (3, 1, false)], none⟩
theorem tk92 : TI.of Tryz.prog 92 = some ti92 := by kernel_rfl
def ti94 : TI := ⟨true, 6, 64, [.int .u8 (.lit 0), .int .u64 (.lit 0), .int .i64 (.lit 0), .int .u64 (.lit 0), .int .i64 (.lit 0), .raw (Value.slice none 0 0)], .struct [(0, 1, false), (1, 1, false), (2, 4, true)], none⟩
theorem tk94 : TI.of Tryz.prog 94 = some ti94 := by kernel_rfl
def ti114 : TI := ⟨false, 1, 24, [.raw (Value.slice none 0 0)], .slice 197, none⟩
theorem tk114 : TI.of Tryz.prog 114 = some ti114 := by kernel_rfl
def ti116 : TI := ⟨true, 3, 40, [.int .i64 (.lit 0), .int .i64 (.lit 0), .raw (Value.slice none 0 0)], .struct [(0, 1, false), (1, 1, false), (2, 1, false)], none⟩
theorem tk116 : TI.of Tryz.prog 116 = some ti116 := by kernel_rfl
def ti118 : TI := ⟨false, 1, 8, [.raw (Value.chan none)], .chan 82, none⟩
theorem tk118 : TI.of Tryz.prog 118 = some ti118 := by kernel_rfl
def ti119 : TI := ⟨false, 1, 8, [.raw (Value.pointer none)], .pointer, none⟩
theorem tk119 : TI.of Tryz.prog 119 = some ti119 := by kernel_rfl
def ti120 : TI := ⟨false, 1, 8, [.raw (Value.pointer none)], .pointer, none⟩
theorem tk120 : TI.of Tryz.prog 120 = some ti120 := by kernel_rfl
def ti122 : TI := ⟨true, 3, 24, [.raw (Value.chan none), .raw (Value.pointer none), .raw (Value.pointer none)], .struct [(0, 1, false), (1, 1, false), (2, 1, false)], none⟩
theorem tk122 : TI.of Tryz.prog 122 = some ti122 := by kernel_rfl
def ti123 : TI := ⟨true, 48, 384, rep 16 ([.raw (Value.chan none), .raw (Value.pointer none), .raw (Value.pointer none)]), .array 16 122, none⟩
theorem tk123 : TI.of Tryz.prog 123 = some ti123 := by kernel_rfl
def ti125 : TI := ⟨true, 55, 448, [.int .u8 (.lit 0), .int .u32 (.lit 0), .int .i64 (.lit 0), .int .i64 (.lit 0), .raw (Value.slice none 0 0)] ++ (rep 16 ([.raw (Value.chan none), .raw (Value.pointer none), .raw (Value.pointer none)])) ++ [.int .u64 (.lit 0), .int .u64 (.lit 0)], .struct [(0, 1, false), (1, 1, false), (2, 3, true), (5, 48, true), (53, 1, false), (54, 1, false)], none⟩
theorem tk125 : TI.of Tryz.prog 125 = some ti125 := by kernel_rfl
def ti126 : TI := ⟨false, 1, 8, [.raw (Value.pointer none)], .pointer, none⟩
theorem tk126 : TI.of Tryz.prog 126 = some ti126 := by kernel_rfl
def ti129 : TI := ⟨true, 42, 400, [.int .u64 (.lit 0), .int .u8 (.lit 0), .int .u8 (.lit 0), .int .u8 (.lit 0), .int .u64 (.lit 0), .int .i64 (.lit 0), .int .i64 (.lit 0), .int .i64 (.lit 0), .int .u8 (.lit 0), .int .u64 (.lit 0), .int .u64 (.lit 0), .bool (.lit false), .int .u8 (.lit 0), .int .u64 (.lit 0), .raw (Value.slice none 0 0), .raw (Value.slice none 0 0), .int .u64 (.lit 0), .int .u8 (.lit 0), .int .u32 (.lit 0), .bool (.lit false), .int .u8 (.lit 0), .int .u64 (.lit 0), .int .u64 (.lit 0), .int .u8 (.lit 0), .int .u32 (.lit 0), .int .u8 (.lit 0), .int .u64 (.lit 0), .int .i64 (.lit 0), .raw (Value.slice none 0 0), .raw (Value.slice none 0 0), .raw (Value.slice none 0 0), .int .u64 (.lit 0), .raw (Value.slice none 0 0), .int .u64 (.lit 0), .int .u8 (.lit 0), .int .u32 (.lit 0), .int .u64 (.lit 0), .int .i64 (.lit 0), .int .i64 (.lit 0), .int .u64 (.lit 0), .int .i64 (.lit 0), .raw (Value.slice none 0 0)], .struct [(0, 12, true), (12, 25, true), (37, 1, false), (38, 4, true)], none⟩
theorem tk129 : TI.of Tryz.prog 129 = some ti129 := by kernel_rfl
def ti132 : TI := ⟨true, 26, 264, [.int .u64 (.lit 0), .int .u8 (.lit 0), .int .u8 (.lit 0), .int .u8 (.lit 0), .int .u64 (.lit 0), .int .i64 (.lit 0), .int .i64 (.lit 0), .int .i64 (.lit 0), .int .u8 (.lit 0), .int .u64 (.lit 0), .int .u64 (.lit 0), .int .i64 (.lit 0), .int .u64 (.lit 0), .int .i64 (.lit 0), .raw (Value.slice none 0 0), .int .u8 (.lit 0), .int .u64 (.lit 0), .int .i64 (.lit 0), .raw (Value.slice none 0 0), .raw (Value.slice none 0 0), .raw (Value.slice none 0 0), .int .u64 (.lit 0), .raw (Value.slice none 0 0), .int .u64 (.lit 0), .int .u8 (.lit 0), .int .u32 (.lit 0)], .struct [(0, 1, false), (1, 10, true), (11, 4, true), (15, 8, true), (23, 3, true)], none⟩
theorem tk132 : TI.of Tryz.prog 132 = some ti132 := by kernel_rfl
def ti139 : TI := ⟨false, 1, 24, [.raw (Value.slice none 0 0)], .slice 23, none⟩
theorem tk139 : TI.of Tryz.prog 139 = some ti139 := by kernel_rfl
def ti148 : TI := ⟨true, 4, 32, [.int .u64 (.lit 0), .int .u8 (.lit 0), .int .i64 (.lit 0), .int .i64 (.lit 0)], .struct [(0, 1, false), (1, 1, false), (2, 1, false), (3, 1, false)], some [true, true, true, true]⟩
theorem tk148 : TI.of Tryz.prog 148 = some ti148 := by kernel_rfl
def ti151 : TI := ⟨true, 3, 24, [.int .u8 (.lit 0), .int .u64 (.lit 0), .int .u64 (.lit 0)], .struct [(0, 1, false), (1, 1, false), (2, 1, false)], some [true, true, true]⟩
theorem tk151 : TI.of Tryz.prog 151 = some ti151 := by kernel_rfl
def ti162 : TI := ⟨true, 12, 152, [.int .u64 (.lit 0), .int .u64 (.lit 0), .int .u8 (.lit 0), .int .u32 (.lit 0), .int .u8 (.lit 0), .int .u64 (.lit 0), .int .i64 (.lit 0), .raw (Value.slice none 0 0), .raw (Value.slice none 0 0), .raw (Value.slice none 0 0), .int .u64 (.lit 0), .raw (Value.slice none 0 0)], .struct [(0, 1, false), (1, 3, true), (4, 8, true)], none⟩
theorem tk162 : TI.of Tryz.prog 162 = some ti162 := by kernel_rfl
def ti168 : TI := ⟨false, 1, 8, [.int .u64 (.lit 0)], .int .u64, none⟩
theorem tk168 : TI.of Tryz.prog 168 = some ti168 := by kernel_rfl
def ti170 : TI := ⟨false, 1, 24, [.raw (Value.slice none 0 0)], .slice 205, none⟩
theorem tk170 : TI.of Tryz.prog 170 = some ti170 := by kernel_rfl
def ti175 : TI := ⟨false, 1, 24, [.raw (Value.slice none 0 0)], .slice 3, none⟩
theorem tk175 : TI.of Tryz.prog 175 = some ti175 := by kernel_rfl
def ti181 : TI := ⟨false, 1, 8, [.raw (Value.nilFunc)], .other, none⟩
theorem tk181 : TI.of Tryz.prog 181 = some ti181 := by kernel_rfl
def ti183 : TI := ⟨false, 1, 8, [.raw (Value.nilFunc)], .other, none⟩
theorem tk183 : TI.of Tryz.prog 183 = some ti183 := by kernel_rfl
def ti185 : TI := ⟨false, 1, 8, [.raw (Value.nilFunc)], .other, none⟩
theorem tk185 : TI.of Tryz.prog 185 = some ti185 := by kernel_rfl
def ti187 : TI := ⟨false, 1, 8, [.raw (Value.nilFunc)], .other, none⟩
theorem tk187 : TI.of Tryz.prog 187 = some ti187 := by kernel_rfl
def ti189 : TI := ⟨false, 1, 8, [.raw (Value.nilFunc)], .other, none⟩
theorem tk189 : TI.of Tryz.prog 189 = some ti189 := by kernel_rfl
def ti191 : TI := ⟨false, 1, 8, [.raw (Value.nilFunc)], .other, none⟩
theorem tk191 : TI.of Tryz.prog 191 = some ti191 := by kernel_rfl
def ti193 : TI := ⟨false, 1, 24, [.raw (Value.slice none 0 0)], .slice 247, none⟩
theorem tk193 : TI.of Tryz.prog 193 = some ti193 := by kernel_rfl
def ti194 : TI := ⟨false, 1, 24, [.raw (Value.slice none 0 0)], .slice 222, none⟩
theorem tk194 : TI.of Tryz.prog 194 = some ti194 := by kernel_rfl
def ti195 : TI := ⟨false, 1, 24, [.raw (Value.slice none 0 0)], .slice 225, none⟩
theorem tk195 : TI.of Tryz.prog 195 = some ti195 := by kernel_rfl
def ti197 : TI := ⟨true, 7, 104, [.int .i64 (.lit 0), .int .i64 (.lit 0), .int .i64 (.lit 0), .int .i64 (.lit 0), .raw (Value.slice none 0 0), .raw (Value.slice none 0 0), .raw (Value.slice none 0 0)], .struct [(0, 1, false), (1, 1, false), (2, 1, false), (3, 1, false), (4, 1, false), (5, 1, false), (6, 1, false)], none⟩
theorem tk197 : TI.of Tryz.prog 197 = some ti197 := by kernel_rfl
def ti199 : TI := ⟨false, 1, 8, [.raw (Value.nilFunc)], .other, none⟩
theorem tk199 : TI.of Tryz.prog 199 = some ti199 := by kernel_rfl
def ti205 : TI := ⟨true, 2, 16, [.int .u64 (.lit 0), .int .u8 (.lit 0)], .struct [(0, 1, false), (1, 1, false)], some [true, true]⟩
theorem tk205 : TI.of Tryz.prog 205 = some ti205 := by kernel_rfl
def ti211 : TI := ⟨false, 1, 8, [.raw (Value.nilFunc)], .other, none⟩
theorem tk211 : TI.of Tryz.prog 211 = some ti211 := by kernel_rfl
def ti222 : TI := ⟨true, 2, 32, [.int .i64 (.lit 0), .raw (Value.slice none 0 0)], .struct [(0, 1, false), (1, 1, false)], none⟩
theorem tk222 : TI.of Tryz.prog 222 = some ti222 := by kernel_rfl
def ti225 : TI := ⟨true, 3, 40, [.int .u8 (.lit 0), .int .i64 (.lit 0), .raw (Value.slice none 0 0)], .struct [(0, 1, false), (1, 1, false), (2, 1, false)], none⟩
theorem tk225 : TI.of Tryz.prog 225 = some ti225 := by kernel_rfl
def ti226 : TI := ⟨false, 1, 8, [.raw (Value.nilFunc)], .other, none⟩
theorem tk226 : TI.of Tryz.prog 226 = some ti226 := by kernel_rfl
def ti228 : TI := ⟨false, 1, 8, [.raw (Value.pointer none)], .pointer, none⟩
theorem tk228 : TI.of Tryz.prog 228 = some ti228 := by kernel_rfl
def ti232 : TI := ⟨false, 1, 8, [.int .i64 (.lit 0)], .int .i64, none⟩
theorem tk232 : TI.of Tryz.prog 232 = some ti232 := by kernel_rfl
def ti242 : TI := ⟨false, 1, 8, [.raw (Value.nilFunc)], .other, none⟩
theorem tk242 : TI.of Tryz.prog 242 = some ti242 := by kernel_rfl
def ti243 : TI := ⟨true, 256, 256, rep 256 ([.bool (.lit false)]), .array 256 4, none⟩
theorem tk243 : TI.of Tryz.prog 243 = some ti243 := by kernel_rfl
def ti245 : TI := ⟨false, 1, 8, [.raw (Value.nilFunc)], .other, none⟩
theorem tk245 : TI.of Tryz.prog 245 = some ti245 := by kernel_rfl
def ti247 : TI := ⟨true, 2, 16, [.int .u8 (.lit 0), .int .i64 (.lit 0)], .struct [(0, 1, false), (1, 1, false)], some [true, true]⟩
theorem tk247 : TI.of Tryz.prog 247 = some ti247 := by kernel_rfl
def ti256 : TI := ⟨false, 1, 8, [.raw (Value.nilFunc)], .other, none⟩
theorem tk256 : TI.of Tryz.prog 256 = some ti256 := by kernel_rfl
def ti259 : TI := ⟨false, 1, 8, [.int .u64 (.lit 0)], .int .u64, none⟩
theorem tk259 : TI.of Tryz.prog 259 = some ti259 := by kernel_rfl
def ti262 : TI := ⟨false, 1, 8, [.raw (Value.pointer none)], .pointer, none⟩
theorem tk262 : TI.of Tryz.prog 262 = some ti262 := by kernel_rfl
def ti280 : TI := ⟨false, 1, 8, [.raw (Value.nilFunc)], .other, none⟩
theorem tk280 : TI.of Tryz.prog 280 = some ti280 := by kernel_rfl
def ti289 : TI := ⟨true, 24, 192, rep 24 ([.int .i64 (.lit 0)]), .array 24 2, none⟩
theorem tk289 : TI.of Tryz.prog 289 = some ti289 := by kernel_rfl
def T2 : Tab := []
theorem T2_ok : TabOk Tryz.prog T2 := .nil mixed
def B2 : SchT := []
theorem B2_ok : regsO B2 Tryz.f2.body = true := by kernel_rfl
theorem F2_ok : FOk Tryz.prog 2 (FI.of Tryz.f2 T2 B2) := FOk.of Tryz.func2 rfl T2_ok B2_ok Tryz.call2
def T3 : Tab := [(3, ti3), (4, ti4), (5, ti5), (23, ti23), (25, ti25), (28, ti28), (34, ti34), (35, ti35), (41, ti41), (42, ti42), (49, ti49), (52, ti52), (53, ti53), (56, ti56)]
theorem T3_ok : TabOk Tryz.prog T3 := .cons tk3 <| .cons tk4 <| .cons tk5 <| .cons tk23 <| .cons tk25 <| .cons tk28 <| .cons tk34 <| .cons tk35 <| .cons tk41 <| .cons tk42 <| .cons tk49 <| .cons tk52 <| .cons tk53 <| .cons tk56 <| .nil mixed
def B3 : SchT := []
theorem B3_ok : regsO B3 Tryz.f3.body = true := by kernel_rfl
theorem F3_ok : FOk Tryz.prog 3 (FI.of Tryz.f3 T3 B3) := FOk.of Tryz.func3 rfl T3_ok B3_ok Tryz.call3
def T4 : Tab := [(3, ti3), (4, ti4), (5, ti5), (28, ti28), (34, ti34), (41, ti41), (42, ti42), (53, ti53), (56, ti56), (63, ti63)]
theorem T4_ok : TabOk Tryz.prog T4 := .cons tk3 <| .cons tk4 <| .cons tk5 <| .cons tk28 <| .cons tk34 <| .cons tk41 <| .cons tk42 <| .cons tk53 <| .cons tk56 <| .cons tk63 <| .nil mixed
def B4 : SchT := [(9, [(1, some [0, 2]), (2, some [0, 1]), (3, some [0, 1, 2]), (0, some [1, 2, 3, 4]), (4, none), (5, none), (6, none)]), (13, [(0, some []), (1, some [0]), (2, some [0, 1]), (3, some [0, 1, 2, 4, 6]), (4, some [0, 1, 2, 3, 6]), (6, some [0, 1, 2, 3, 4, 5]), (5, none), (7, none), (8, some [0, 1, 2, 3, 4, 5, 6, 7]), (9, some [0, 1, 2, 3, 4, 5, 6, 7, 8]), (10, none), (11, some [0, 1, 2, 3, 4, 5, 6, 7, 8, 9, 10]), (12, some [0, 1, 2, 3, 4, 5, 6, 7, 8, 9, 10, 11])])]
theorem B4_ok : regsO B4 Tryz.f4.body = true := by kernel_rfl
theorem F4_ok : FOk Tryz.prog 4 (FI.of Tryz.f4 T4 B4) := FOk.of Tryz.func4 rfl T4_ok B4_ok Tryz.call4
def T5 : Tab := [(3, ti3), (4, ti4), (5, ti5), (22, ti22), (23, ti23), (25, ti25), (28, ti28), (34, ti34), (41, ti41), (42, ti42), (56, ti56)]
theorem T5_ok : TabOk Tryz.prog T5 := .cons tk3 <| .cons tk4 <| .cons tk5 <| .cons tk22 <| .cons tk23 <| .cons tk25 <| .cons tk28 <| .cons tk34 <| .cons tk41 <| .cons tk42 <| .cons tk56 <| .nil mixed
def B5 : SchT := [(11, [(1, some [0, 2, 5, 6, 7, 8, 9, 10]), (2, some [0, 1, 5, 6, 7, 8, 9, 10]), (3, some [0, 1, 2, 5, 6, 7, 8, 9, 10]), (5, some [0, 1, 2, 3, 4, 7, 8, 9, 10]), (7, some [0, 1, 2, 3, 4, 5, 6, 8, 9, 10]), (8, some [0, 1, 2, 3, 4, 5, 6, 7, 10]), (0, some [1, 2, 3, 4, 5, 6, 7, 8, 9, 10, 11]), (4, some [0, 1, 2, 3, 5, 6, 7, 8, 9, 10]), (6, some [0, 1, 2, 3, 4, 5, 7, 8, 9, 10]), (9, some [0, 1, 2, 3, 4, 5, 6, 7, 8, 10]), (10, none), (11, some [0, 1, 2, 3, 4, 5, 6, 7, 8, 9, 10]), (12, none), (13, none)]), (14, [(0, some [3, 4, 5, 6]), (4, some [0, 1, 2, 3, 5]), (5, some [0, 1, 2, 3, 4]), (1, some [0, 3, 4, 5, 6]), (2, some [0, 1, 3, 4, 5, 6]), (3, none), (6, none), (7, some [0, 1, 2, 3, 4, 5, 6])])]
theorem B5_ok : regsO B5 Tryz.f5.body = true := by kernel_rfl
theorem F5_ok : FOk Tryz.prog 5 (FI.of Tryz.f5 T5 B5) := FOk.of Tryz.func5 rfl T5_ok B5_ok Tryz.call5
def T6 : Tab := [(3, ti3), (4, ti4), (5, ti5), (22, ti22), (23, ti23), (25, ti25), (34, ti34), (41, ti41), (42, ti42), (53, ti53), (56, ti56), (73, ti73), (74, ti74), (77, ti77), (82, ti82), (132, ti132)]
theorem T6_ok : TabOk Tryz.prog T6 := .cons tk3 <| .cons tk4 <| .cons tk5 <| .cons tk22 <| .cons tk23 <| .cons tk25 <| .cons tk34 <| .cons tk41 <| .cons tk42 <| .cons tk53 <| .cons tk56 <| .cons tk73 <| .cons tk74 <| .cons tk77 <| .cons tk82 <| .cons tk132 <| .nil mixed
def B6 : SchT := []
theorem B6_ok : regsO B6 Tryz.f6.body = true := by kernel_rfl
theorem F6_ok : FOk Tryz.prog 6 (FI.of Tryz.f6 T6 B6) := FOk.of Tryz.func6 rfl T6_ok B6_ok Tryz.call6
def T7 : Tab := [(3, ti3), (4, ti4), (5, ti5), (22, ti22), (23, ti23), (25, ti25)]
theorem T7_ok : TabOk Tryz.prog T7 := .cons tk3 <| .cons tk4 <| .cons tk5 <| .cons tk22 <| .cons tk23 <| .cons tk25 <| .nil mixed
def B7 : SchT := [(5, [(0, some []), (1, none), (2, some [0, 1]), (3, some [0, 1, 2]), (4, some [0, 1, 2, 3]), (5, some [0, 1, 2, 3, 4]), (6, none), (7, none), (8, some [0, 1, 2, 3, 4, 5, 6, 7]), (9, some [0, 1, 2, 3, 4, 5, 6, 7, 8]), (10, some [0, 1, 2, 3, 4, 5, 6, 7, 8, 9, 12, 13, 15, 16, 17, 18]), (12, some [0, 1, 2, 3, 4, 5, 6, 7, 8, 9, 10, 11, 15, 16, 17, 18]), (15, some [0, 1, 2, 3, 4, 5, 6, 7, 8, 9, 10, 11, 12, 13, 14, 17, 18]), (17, some [0, 1, 2, 3, 4, 5, 6, 7, 8, 9, 10, 11, 12, 13, 14, 15, 16]), (11, some [0, 1, 2, 3, 4, 5, 6, 7, 8, 9, 10, 12, 13, 15, 16, 17, 18]), (13, some [0, 1, 2, 3, 4, 5, 6, 7, 8, 9, 10, 11, 12, 15, 16, 17, 18]), (16, some [0, 1, 2, 3, 4, 5, 6, 7, 8, 9, 10, 11, 12, 13, 14, 15, 17, 18]), (18, some [0, 1, 2, 3, 4, 5, 6, 7, 8, 9, 10, 11, 12, 13, 14, 15, 16, 17]), (14, none), (19, none), (20, some [0, 1, 2, 3, 4, 5, 6, 7, 8, 9, 10, 11, 12, 13, 14, 15, 16, 17, 18, 19]), (21, some [0, 1, 2, 3, 4, 5, 6, 7, 8, 9, 10, 11, 12, 13, 14, 15, 16, 17, 18, 19, 20]), (22, some [0, 1, 2, 3, 4, 5, 6, 7, 8, 9, 10, 11, 12, 13, 14, 15, 16, 17, 18, 19, 20, 21]), (23, some [0, 1, 2, 3, 4, 5, 6, 7, 8, 9, 10, 11, 12, 13, 14, 15, 16, 17, 18, 19, 20, 21, 22])])]
theorem B7_ok : regsO B7 Tryz.f7.body = true := by kernel_rfl
theorem F7_ok : FOk Tryz.prog 7 (FI.of Tryz.f7 T7 B7) := FOk.of Tryz.func7 rfl T7_ok B7_ok Tryz.call7
def T8 : Tab := [(2, ti2), (3, ti3), (29, ti29), (30, ti30), (31, ti31), (32, ti32), (34, ti34), (92, ti92), (94, ti94), (148, ti148), (151, ti151)]
theorem T8_ok : TabOk Tryz.prog T8 := .cons tk2 <| .cons tk3 <| .cons tk29 <| .cons tk30 <| .cons tk31 <| .cons tk32 <| .cons tk34 <| .cons tk92 <| .cons tk94 <| .cons tk148 <| .cons tk151 <| .nil mixed
def B8 : SchT := []
theorem B8_ok : regsO B8 Tryz.f8.body = true := by kernel_rfl
theorem F8_ok : FOk Tryz.prog 8 (FI.of Tryz.f8 T8 B8) := FOk.of Tryz.func8 rfl T8_ok B8_ok Tryz.call8
def T9 : Tab := [(5, ti5), (22, ti22), (26, ti26), (28, ti28)]
theorem T9_ok : TabOk Tryz.prog T9 := .cons tk5 <| .cons tk22 <| .cons tk26 <| .cons tk28 <| .nil mixed
def B9 : SchT := []
theorem B9_ok : regsO B9 Tryz.f9.body = true := by kernel_rfl
theorem F9_ok : FOk Tryz.prog 9 (FI.of Tryz.f9 T9 B9) := FOk.of Tryz.func9 rfl T9_ok B9_ok Tryz.call9
def T10 : Tab := [(4, ti4), (5, ti5), (23, ti23), (25, ti25), (28, ti28), (41, ti41), (42, ti42), (56, ti56)]
theorem T10_ok : TabOk Tryz.prog T10 := .cons tk4 <| .cons tk5 <| .cons tk23 <| .cons tk25 <| .cons tk28 <| .cons tk41 <| .cons tk42 <| .cons tk56 <| .nil mixed
def B10 : SchT := []
theorem B10_ok : regsO B10 Tryz.f10.body = true := by kernel_rfl
theorem F10_ok : FOk Tryz.prog 10 (FI.of Tryz.f10 T10 B10) := FOk.of Tryz.func10 rfl T10_ok B10_ok Tryz.call10
def T11 : Tab := [(4, ti4), (5, ti5), (22, ti22), (23, ti23), (25, ti25), (28, ti28), (41, ti41)]
theorem T11_ok : TabOk Tryz.prog T11 := .cons tk4 <| .cons tk5 <| .cons tk22 <| .cons tk23 <| .cons tk25 <| .cons tk28 <| .cons tk41 <| .nil mixed
def B11 : SchT := []
theorem B11_ok : regsO B11 Tryz.f11.body = true := by kernel_rfl
theorem F11_ok : FOk Tryz.prog 11 (FI.of Tryz.f11 T11 B11) := FOk.of Tryz.func11 rfl T11_ok B11_ok Tryz.call11
def T12 : Tab := [(3, ti3), (5, ti5), (23, ti23), (25, ti25), (41, ti41), (53, ti53), (56, ti56)]
theorem T12_ok : TabOk Tryz.prog T12 := .cons tk3 <| .cons tk5 <| .cons tk23 <| .cons tk25 <| .cons tk41 <| .cons tk53 <| .cons tk56 <| .nil mixed
def B12 : SchT := [(8, [(0, some [1, 2, 3, 4, 5, 6, 7]), (2, some [0, 1, 3]), (3, some [0, 1, 2]), (4, some [0, 1, 2, 3]), (1, some [0, 2, 3, 4, 5]), (5, none), (6, none), (7, none), (8, none), (9, some [0, 1, 2, 3, 4, 5, 6, 7, 8])])]
theorem B12_ok : regsO B12 Tryz.f12.body = true := by kernel_rfl
theorem F12_ok : FOk Tryz.prog 12 (FI.of Tryz.f12 T12 B12) := FOk.of Tryz.func12 rfl T12_ok B12_ok Tryz.call12
def T13 : Tab := [(4, ti4), (5, ti5), (22, ti22), (25, ti25), (28, ti28), (34, ti34), (46, ti46), (47, ti47), (49, ti49), (56, ti56)]
theorem T13_ok : TabOk Tryz.prog T13 := .cons tk4 <| .cons tk5 <| .cons tk22 <| .cons tk25 <| .cons tk28 <| .cons tk34 <| .cons tk46 <| .cons tk47 <| .cons tk49 <| .cons tk56 <| .nil mixed
def B13 : SchT := [(5, [(0, some [1]), (1, some [0, 2]), (2, none), (3, none)]), (12, [(0, some [1]), (1, some [0, 2]), (2, none), (3, none)]), (14, [(0, some [1]), (1, some [0, 2]), (2, none), (3, none)]), (19, [(0, some [1]), (1, some [0, 2]), (2, none), (3, none)])]
theorem B13_ok : regsO B13 Tryz.f13.body = true := by kernel_rfl
theorem F13_ok : FOk Tryz.prog 13 (FI.of Tryz.f13 T13 B13) := FOk.of Tryz.func13 rfl T13_ok B13_ok Tryz.call13
def T14 : Tab := [(3, ti3), (4, ti4), (5, ti5), (22, ti22), (25, ti25), (28, ti28), (34, ti34), (41, ti41), (56, ti56)]
theorem T14_ok : TabOk Tryz.prog T14 := .cons tk3 <| .cons tk4 <| .cons tk5 <| .cons tk22 <| .cons tk25 <| .cons tk28 <| .cons tk34 <| .cons tk41 <| .cons tk56 <| .nil mixed
def B14 : SchT := [(4, [(0, some [2, 3]), (2, some [0, 1]), (1, some [0, 2, 3]), (3, none), (4, some [0, 1, 2, 3]), (5, none)]), (12, [(0, some [2, 3, 4]), (2, some [0, 1, 5]), (1, some [0, 2, 3, 4]), (5, some [0, 1, 2, 3, 4]), (3, none), (4, none), (6, none), (7, some [0, 1, 2, 3, 4, 5, 6]), (8, none)])]
theorem B14_ok : regsO B14 Tryz.f14.body = true := by kernel_rfl
theorem F14_ok : FOk Tryz.prog 14 (FI.of Tryz.f14 T14 B14) := FOk.of Tryz.func14 rfl T14_ok B14_ok Tryz.call14
def T15 : Tab := [(4, ti4), (5, ti5), (22, ti22), (28, ti28), (34, ti34), (41, ti41), (56, ti56)]
theorem T15_ok : TabOk Tryz.prog T15 := .cons tk4 <| .cons tk5 <| .cons tk22 <| .cons tk28 <| .cons tk34 <| .cons tk41 <| .cons tk56 <| .nil mixed
def B15 : SchT := [(4, [(2, some [0, 1]), (0, some [1, 2, 3, 4, 5]), (1, some [0, 2, 3, 4, 5, 6, 7]), (3, none), (4, some [0, 1, 2, 3]), (5, none), (6, some [0, 1, 2, 3, 4, 5]), (7, none), (8, some [0, 1, 2, 3, 4, 5, 6, 7]), (9, none)])]
theorem B15_ok : regsO B15 Tryz.f15.body = true := by kernel_rfl
theorem F15_ok : FOk Tryz.prog 15 (FI.of Tryz.f15 T15 B15) := FOk.of Tryz.func15 rfl T15_ok B15_ok Tryz.call15
def T16 : Tab := [(3, ti3), (5, ti5), (23, ti23), (25, ti25), (34, ti34), (53, ti53), (56, ti56), (63, ti63)]
theorem T16_ok : TabOk Tryz.prog T16 := .cons tk3 <| .cons tk5 <| .cons tk23 <| .cons tk25 <| .cons tk34 <| .cons tk53 <| .cons tk56 <| .cons tk63 <| .nil mixed
def B16 : SchT := []
theorem B16_ok : regsO B16 Tryz.f16.body = true := by kernel_rfl
theorem F16_ok : FOk Tryz.prog 16 (FI.of Tryz.f16 T16 B16) := FOk.of Tryz.func16 rfl T16_ok B16_ok Tryz.call16
def T17 : Tab := [(3, ti3), (4, ti4), (5, ti5), (25, ti25), (28, ti28), (34, ti34), (41, ti41), (63, ti63)]
theorem T17_ok : TabOk Tryz.prog T17 := .cons tk3 <| .cons tk4 <| .cons tk5 <| .cons tk25 <| .cons tk28 <| .cons tk34 <| .cons tk41 <| .cons tk63 <| .nil mixed
def B17 : SchT := [(4, [(1, some [0, 2, 3, 4, 5, 6, 7, 8, 9, 10]), (2, some [0, 1, 3]), (3, some [0, 1, 2]), (4, some [0, 1, 2, 3]), (5, some [0, 1, 2, 3, 4]), (0, some [1, 2, 3, 4, 5, 6, 7, 8, 9]), (6, some [0, 1, 2, 3, 4, 5, 7]), (7, none), (8, none), (9, some [0, 1, 2, 3, 4, 5, 6, 7, 8, 10, 11]), (10, none), (11, some [0, 1, 2, 3, 4, 5, 6, 7, 8, 9, 10]), (12, some [0, 1, 2, 3, 4, 5, 6, 7, 8, 9, 10, 11])]), (7, [(1, some [0, 2, 3, 4, 5, 6, 7, 8, 9, 10]), (2, some [0, 1, 3]), (3, some [0, 1, 2]), (4, some [0, 1, 2, 3]), (5, some [0, 1, 2, 3, 4]), (0, some [1, 2, 3, 4, 5, 6, 7, 8, 9]), (6, some [0, 1, 2, 3, 4, 5, 7]), (7, none), (8, none), (9, some [0, 1, 2, 3, 4, 5, 6, 7, 8, 10, 11]), (10, none), (11, some [0, 1, 2, 3, 4, 5, 6, 7, 8, 9, 10]), (12, some [0, 1, 2, 3, 4, 5, 6, 7, 8, 9, 10, 11])])]
theorem B17_ok : regsO B17 Tryz.f17.body = true := by kernel_rfl
theorem F17_ok : FOk Tryz.prog 17 (FI.of Tryz.f17 T17 B17) := FOk.of Tryz.func17 rfl T17_ok B17_ok Tryz.call17
def T18 : Tab := [(4, ti4), (5, ti5), (22, ti22), (25, ti25), (28, ti28), (34, ti34), (41, ti41)]
theorem T18_ok : TabOk Tryz.prog T18 := .cons tk4 <| .cons tk5 <| .cons tk22 <| .cons tk25 <| .cons tk28 <| .cons tk34 <| .cons tk41 <| .nil mixed
def B18 : SchT := []
theorem B18_ok : regsO B18 Tryz.f18.body = true := by kernel_rfl
theorem F18_ok : FOk Tryz.prog 18 (FI.of Tryz.f18 T18 B18) := FOk.of Tryz.func18 rfl T18_ok B18_ok Tryz.call18
def T19 : Tab := [(4, ti4), (5, ti5), (25, ti25), (28, ti28), (34, ti34), (41, ti41), (42, ti42)]
theorem T19_ok : TabOk Tryz.prog T19 := .cons tk4 <| .cons tk5 <| .cons tk25 <| .cons tk28 <| .cons tk34 <| .cons tk41 <| .cons tk42 <| .nil mixed
def B19 : SchT := []
theorem B19_ok : regsO B19 Tryz.f19.body = true := by kernel_rfl
theorem F19_ok : FOk Tryz.prog 19 (FI.of Tryz.f19 T19 B19) := FOk.of Tryz.func19 rfl T19_ok B19_ok Tryz.call19
def T20 : Tab := [(3, ti3), (5, ti5), (22, ti22), (23, ti23), (25, ti25)]
theorem T20_ok : TabOk Tryz.prog T20 := .cons tk3 <| .cons tk5 <| .cons tk22 <| .cons tk23 <| .cons tk25 <| .nil mixed
def B20 : SchT := []
theorem B20_ok : regsO B20 Tryz.f20.body = true := by kernel_rfl
theorem F20_ok : FOk Tryz.prog 20 (FI.of Tryz.f20 T20 B20) := FOk.of Tryz.func20 rfl T20_ok B20_ok Tryz.call20
def T21 : Tab := [(3, ti3), (4, ti4), (5, ti5), (22, ti22), (23, ti23), (25, ti25), (26, ti26), (42, ti42), (53, ti53), (56, ti56), (73, ti73), (74, ti74), (77, ti77), (116, ti116), (132, ti132)]
theorem T21_ok : TabOk Tryz.prog T21 := .cons tk3 <| .cons tk4 <| .cons tk5 <| .cons tk22 <| .cons tk23 <| .cons tk25 <| .cons tk26 <| .cons tk42 <| .cons tk53 <| .cons tk56 <| .cons tk73 <| .cons tk74 <| .cons tk77 <| .cons tk116 <| .cons tk132 <| .nil mixed
def B21 : SchT := []
theorem B21_ok : regsO B21 Tryz.f21.body = true := by kernel_rfl
theorem F21_ok : FOk Tryz.prog 21 (FI.of Tryz.f21 T21 B21) := FOk.of Tryz.func21 rfl T21_ok B21_ok Tryz.call21
def T22 : Tab := [(3, ti3), (4, ti4), (5, ti5), (22, ti22), (73, ti73), (74, ti74), (82, ti82), (118, ti118), (122, ti122), (123, ti123), (125, ti125)]
theorem T22_ok : TabOk Tryz.prog T22 := .cons tk3 <| .cons tk4 <| .cons tk5 <| .cons tk22 <| .cons tk73 <| .cons tk74 <| .cons tk82 <| .cons tk118 <| .cons tk122 <| .cons tk123 <| .cons tk125 <| .nil mixed
def B22 : SchT := [(3, [(0, some [5, 6, 8]), (1, some [0, 5, 6, 8]), (2, some [0, 1, 5, 6, 8]), (6, some [0, 1, 2, 3, 4, 5, 8]), (3, some [0, 1, 2, 5, 6, 8]), (4, some [0, 1, 2, 3, 5, 6, 8]), (5, some [0, 1, 2, 3, 4, 6, 8]), (7, some [0, 1, 2, 3, 4, 5, 6, 8]), (8, none), (9, none)]), (4, [(0, some [1, 2]), (1, some [0, 3, 4]), (3, some [0, 1, 2]), (4, some [0, 1, 2, 3]), (2, none), (5, some [0, 1, 2, 3, 4]), (6, some [0, 1, 2, 3, 4, 5]), (7, none)])]
theorem B22_ok : regsO B22 Tryz.f22.body = true := by kernel_rfl
theorem F22_ok : FOk Tryz.prog 22 (FI.of Tryz.f22 T22 B22) := FOk.of Tryz.func22 rfl T22_ok B22_ok Tryz.call22
def T23 : Tab := [(3, ti3), (5, ti5), (25, ti25), (41, ti41), (74, ti74), (82, ti82), (118, ti118), (119, ti119), (122, ti122), (126, ti126), (129, ti129)]
theorem T23_ok : TabOk Tryz.prog T23 := .cons tk3 <| .cons tk5 <| .cons tk25 <| .cons tk41 <| .cons tk74 <| .cons tk82 <| .cons tk118 <| .cons tk119 <| .cons tk122 <| .cons tk126 <| .cons tk129 <| .nil mixed
def B23 : SchT := []
theorem B23_ok : regsO B23 Tryz.f23.body = true := by kernel_rfl
theorem F23_ok : FOk Tryz.prog 23 (FI.of Tryz.f23 T23 B23) := FOk.of Tryz.func23 rfl T23_ok B23_ok Tryz.call23
def T24 : Tab := [(5, ti5), (22, ti22), (25, ti25), (41, ti41), (74, ti74), (119, ti119), (122, ti122), (126, ti126), (129, ti129)]
theorem T24_ok : TabOk Tryz.prog T24 := .cons tk5 <| .cons tk22 <| .cons tk25 <| .cons tk41 <| .cons tk74 <| .cons tk119 <| .cons tk122 <| .cons tk126 <| .cons tk129 <| .nil mixed
def B24 : SchT := []
theorem B24_ok : regsO B24 Tryz.f24.body = true := by kernel_rfl
theorem F24_ok : FOk Tryz.prog 24 (FI.of Tryz.f24 T24 B24) := FOk.of Tryz.func24 rfl T24_ok B24_ok Tryz.call24
def T25 : Tab := [(5, ti5), (25, ti25), (41, ti41), (56, ti56), (74, ti74), (119, ti119), (122, ti122), (126, ti126), (129, ti129)]
theorem T25_ok : TabOk Tryz.prog T25 := .cons tk5 <| .cons tk25 <| .cons tk41 <| .cons tk56 <| .cons tk74 <| .cons tk119 <| .cons tk122 <| .cons tk126 <| .cons tk129 <| .nil mixed
def B25 : SchT := [(5, [(0, some [4, 5, 6, 7, 8, 9, 10, 11, 12]), (1, some [0, 4, 5, 6, 7, 8, 9, 10, 11, 12]), (2, some [0, 1, 4, 5, 6, 7, 8, 9, 10, 11, 12]), (4, some [0, 1, 2, 3, 11]), (5, some [0, 1, 2, 3, 4, 11]), (6, some [0, 1, 2, 3, 4, 5, 11]), (3, some [0, 1, 2, 4, 5, 6, 7, 8, 9, 10, 11, 12]), (7, some [0, 1, 2, 3, 4, 5, 6, 11]), (8, some [0, 1, 2, 3, 4, 5, 6, 7, 11]), (9, some [0, 1, 2, 3, 4, 5, 6, 7, 8, 11]), (10, some [0, 1, 2, 3, 4, 5, 6, 7, 8, 9, 11]), (11, none), (12, none), (13, some [0, 1, 2, 3, 4, 5, 6, 7, 8, 9, 10, 11, 12]), (14, some [0, 1, 2, 3, 4, 5, 6, 7, 8, 9, 10, 11, 12, 13]), (15, none)])]
theorem B25_ok : regsO B25 Tryz.f25.body = true := by kernel_rfl
theorem F25_ok : FOk Tryz.prog 25 (FI.of Tryz.f25 T25 B25) := FOk.of Tryz.func25 rfl T25_ok B25_ok Tryz.call25
def T26 : Tab := [(5, ti5), (23, ti23), (25, ti25), (34, ti34), (41, ti41), (74, ti74), (82, ti82), (119, ti119), (122, ti122), (126, ti126), (129, ti129)]
theorem T26_ok : TabOk Tryz.prog T26 := .cons tk5 <| .cons tk23 <| .cons tk25 <| .cons tk34 <| .cons tk41 <| .cons tk74 <| .cons tk82 <| .cons tk119 <| .cons tk122 <| .cons tk126 <| .cons tk129 <| .nil mixed
def B26 : SchT := [(7, [(0, some [7]), (1, some [0, 7]), (2, some [0, 1, 7]), (3, some [0, 1, 2, 7]), (4, some [0, 1, 2, 3, 7]), (5, some [0, 1, 2, 3, 4, 7]), (6, some [0, 1, 2, 3, 4, 5, 7]), (7, some [0, 1, 2, 3, 4, 5, 6, 8]), (8, none), (9, none), (10, some [0, 1, 2, 3, 4, 5, 6, 7, 8, 9])])]
theorem B26_ok : regsO B26 Tryz.f26.body = true := by kernel_rfl
theorem F26_ok : FOk Tryz.prog 26 (FI.of Tryz.f26 T26 B26) := FOk.of Tryz.func26 rfl T26_ok B26_ok Tryz.call26
def T27 : Tab := [(3, ti3), (5, ti5), (22, ti22), (73, ti73), (74, ti74), (77, ti77), (82, ti82), (92, ti92), (118, ti118), (119, ti119), (120, ti120), (122, ti122), (126, ti126), (132, ti132)]
theorem T27_ok : TabOk Tryz.prog T27 := .cons tk3 <| .cons tk5 <| .cons tk22 <| .cons tk73 <| .cons tk74 <| .cons tk77 <| .cons tk82 <| .cons tk92 <| .cons tk118 <| .cons tk119 <| .cons tk120 <| .cons tk122 <| .cons tk126 <| .cons tk132 <| .nil mixed
def B27 : SchT := []
theorem B27_ok : regsO B27 Tryz.f27.body = true := by kernel_rfl
theorem F27_ok : FOk Tryz.prog 27 (FI.of Tryz.f27 T27 B27) := FOk.of Tryz.func27 rfl T27_ok B27_ok Tryz.call27
def T28 : Tab := [(5, ti5), (74, ti74), (82, ti82), (118, ti118), (122, ti122), (126, ti126)]
theorem T28_ok : TabOk Tryz.prog T28 := .cons tk5 <| .cons tk74 <| .cons tk82 <| .cons tk118 <| .cons tk122 <| .cons tk126 <| .nil mixed
def B28 : SchT := []
theorem B28_ok : regsO B28 Tryz.f28.body = true := by kernel_rfl
theorem F28_ok : FOk Tryz.prog 28 (FI.of Tryz.f28 T28 B28) := FOk.of Tryz.func28 rfl T28_ok B28_ok Tryz.call28
def T29 : Tab := [(22, ti22), (74, ti74), (125, ti125)]
theorem T29_ok : TabOk Tryz.prog T29 := .cons tk22 <| .cons tk74 <| .cons tk125 <| .nil mixed
def B29 : SchT := []
theorem B29_ok : regsO B29 Tryz.f29.body = true := by kernel_rfl
theorem F29_ok : FOk Tryz.prog 29 (FI.of Tryz.f29 T29 B29) := FOk.of Tryz.func29 rfl T29_ok B29_ok Tryz.call29
def T30 : Tab := [(3, ti3), (5, ti5), (23, ti23)]
theorem T30_ok : TabOk Tryz.prog T30 := .cons tk3 <| .cons tk5 <| .cons tk23 <| .nil mixed
def B30 : SchT := [(4, [(0, some [1]), (1, some [0]), (2, some [0, 1]), (3, none), (4, some [0, 1, 2, 3]), (5, some [0, 1, 2, 3, 4]), (6, some [0, 1, 2, 3, 4, 5]), (7, some [0, 1, 2, 3, 4, 5, 6]), (8, some [0, 1, 2, 3, 4, 5, 6, 7]), (9, some [0, 1, 2, 3, 4, 5, 6, 7, 8, 10, 11, 14, 15, 16, 17]), (10, some [0, 1, 2, 3, 4, 5, 6, 7, 8, 9, 14, 15, 16, 17]), (11, some [0, 1, 2, 3, 4, 5, 6, 7, 8, 9, 10, 14, 15, 16, 17]), (12, some [0, 1, 2, 3, 4, 5, 6, 7, 8, 9, 10, 11, 14, 15, 16, 17]), (14, some [0, 1, 2, 3, 4, 5, 6, 7, 8, 9, 10, 11, 12, 13, 15]), (15, some [0, 1, 2, 3, 4, 5, 6, 7, 8, 9, 10, 11, 12, 13, 14]), (16, some [0, 1, 2, 3, 4, 5, 6, 7, 8, 9, 10, 11, 12, 13, 14, 15]), (13, some [0, 1, 2, 3, 4, 5, 6, 7, 8, 9, 10, 11, 12, 14, 15, 16, 17]), (17, none), (18, some [0, 1, 2, 3, 4, 5, 6, 7, 8, 9, 10, 11, 12, 13, 14, 15, 16, 17]), (19, some [0, 1, 2, 3, 4, 5, 6, 7, 8, 9, 10, 11, 12, 13, 14, 15, 16, 17, 18]), (20, some [0, 1, 2, 3, 4, 5, 6, 7, 8, 9, 10, 11, 12, 13, 14, 15, 16, 17, 18, 19])])]
theorem B30_ok : regsO B30 Tryz.f30.body = true := by kernel_rfl
theorem F30_ok : FOk Tryz.prog 30 (FI.of Tryz.f30 T30 B30) := FOk.of Tryz.func30 rfl T30_ok B30_ok Tryz.call30
def T31 : Tab := [(3, ti3), (4, ti4), (5, ti5), (23, ti23)]
theorem T31_ok : TabOk Tryz.prog T31 := .cons tk3 <| .cons tk4 <| .cons tk5 <| .cons tk23 <| .nil mixed
def B31 : SchT := []
theorem B31_ok : regsO B31 Tryz.f31.body = true := by kernel_rfl
theorem F31_ok : FOk Tryz.prog 31 (FI.of Tryz.f31 T31 B31) := FOk.of Tryz.func31 rfl T31_ok B31_ok Tryz.call31
def T32 : Tab := [(3, ti3), (4, ti4), (5, ti5), (22, ti22), (23, ti23), (25, ti25)]
theorem T32_ok : TabOk Tryz.prog T32 := .cons tk3 <| .cons tk4 <| .cons tk5 <| .cons tk22 <| .cons tk23 <| .cons tk25 <| .nil mixed
def B32 : SchT := [(5, [(0, some []), (1, none), (2, none), (3, some [0, 1, 2]), (4, some [0, 1, 2, 3]), (5, none), (6, some [0, 1, 2, 3, 4, 5]), (7, some [0, 1, 2, 3, 4, 5, 6]), (8, some [0, 1, 2, 3, 4, 5, 6, 7]), (9, some [0, 1, 2, 3, 4, 5, 6, 7, 8]), (10, some [0, 1, 2, 3, 4, 5, 6, 7, 8, 9, 13, 14]), (13, some [0, 1, 2, 3, 4, 5, 6, 7, 8, 9, 10, 11, 12]), (11, some [0, 1, 2, 3, 4, 5, 6, 7, 8, 9, 10, 13, 14]), (14, some [0, 1, 2, 3, 4, 5, 6, 7, 8, 9, 10, 11, 12, 13]), (12, none), (15, none), (16, some [0, 1, 2, 3, 4, 5, 6, 7, 8, 9, 10, 11, 12, 13, 14, 15]), (17, none), (18, some [0, 1, 2, 3, 4, 5, 6, 7, 8, 9, 10, 11, 12, 13, 14, 15, 16, 17]), (19, some [0, 1, 2, 3, 4, 5, 6, 7, 8, 9, 10, 11, 12, 13, 14, 15, 16, 17, 18]), (20, some [0, 1, 2, 3, 4, 5, 6, 7, 8, 9, 10, 11, 12, 13, 14, 15, 16, 17, 18, 19])])]
theorem B32_ok : regsO B32 Tryz.f32.body = true := by kernel_rfl
theorem F32_ok : FOk Tryz.prog 32 (FI.of Tryz.f32 T32 B32) := FOk.of Tryz.func32 rfl T32_ok B32_ok Tryz.call32
def T33 : Tab := [(28, ti28)]
theorem T33_ok : TabOk Tryz.prog T33 := .cons tk28 <| .nil mixed
def B33 : SchT := []
theorem B33_ok : regsO B33 Tryz.f33.body = true := by kernel_rfl
theorem F33_ok : FOk Tryz.prog 33 (FI.of Tryz.f33 T33 B33) := FOk.of Tryz.func33 rfl T33_ok B33_ok Tryz.call33
def T34 : Tab := [(5, ti5), (23, ti23)]
theorem T34_ok : TabOk Tryz.prog T34 := .cons tk5 <| .cons tk23 <| .nil mixed
def B34 : SchT := []
theorem B34_ok : regsO B34 Tryz.f34.body = true := by kernel_rfl
theorem F34_ok : FOk Tryz.prog 34 (FI.of Tryz.f34 T34 B34) := FOk.of Tryz.func34 rfl T34_ok B34_ok Tryz.call34
def T35 : Tab := [(3, ti3), (5, ti5), (22, ti22), (23, ti23), (25, ti25)]
theorem T35_ok : TabOk Tryz.prog T35 := .cons tk3 <| .cons tk5 <| .cons tk22 <| .cons tk23 <| .cons tk25 <| .nil mixed
def B35 : SchT := []
theorem B35_ok : regsO B35 Tryz.f35.body = true := by kernel_rfl
theorem F35_ok : FOk Tryz.prog 35 (FI.of Tryz.f35 T35 B35) := FOk.of Tryz.func35 rfl T35_ok B35_ok Tryz.call35
def T36 : Tab := [(5, ti5), (22, ti22), (25, ti25), (28, ti28), (34, ti34), (41, ti41), (56, ti56)]
theorem T36_ok : TabOk Tryz.prog T36 := .cons tk5 <| .cons tk22 <| .cons tk25 <| .cons tk28 <| .cons tk34 <| .cons tk41 <| .cons tk56 <| .nil mixed
def B36 : SchT := []
theorem B36_ok : regsO B36 Tryz.f36.body = true := by kernel_rfl
theorem F36_ok : FOk Tryz.prog 36 (FI.of Tryz.f36 T36 B36) := FOk.of Tryz.func36 rfl T36_ok B36_ok Tryz.call36
def T37 : Tab := [(4, ti4), (5, ti5), (22, ti22), (25, ti25), (28, ti28), (46, ti46), (47, ti47), (49, ti49), (56, ti56)]
theorem T37_ok : TabOk Tryz.prog T37 := .cons tk4 <| .cons tk5 <| .cons tk22 <| .cons tk25 <| .cons tk28 <| .cons tk46 <| .cons tk47 <| .cons tk49 <| .cons tk56 <| .nil mixed
def B37 : SchT := [(5, [(0, some [3, 4, 6, 7]), (1, some [0, 3, 4, 6, 7]), (3, some [0, 1, 2, 6, 7]), (6, some [0, 1, 2, 3, 4, 5, 8]), (2, some [0, 1, 3, 4, 6, 7]), (4, some [0, 1, 2, 3, 6, 7]), (5, some [0, 1, 2, 3, 4, 6, 7]), (8, some [0, 1, 2, 3, 4, 5, 6, 7]), (7, none), (9, some [0, 1, 2, 3, 4, 5, 6, 7, 8])])]
theorem B37_ok : regsO B37 Tryz.f37.body = true := by kernel_rfl
theorem F37_ok : FOk Tryz.prog 37 (FI.of Tryz.f37 T37 B37) := FOk.of Tryz.func37 rfl T37_ok B37_ok Tryz.call37
def T38 : Tab := [(4, ti4), (5, ti5), (22, ti22), (23, ti23), (25, ti25), (28, ti28), (41, ti41), (56, ti56)]
theorem T38_ok : TabOk Tryz.prog T38 := .cons tk4 <| .cons tk5 <| .cons tk22 <| .cons tk23 <| .cons tk25 <| .cons tk28 <| .cons tk41 <| .cons tk56 <| .nil mixed
def B38 : SchT := [(2, [(0, some []), (1, some [0]), (2, none), (3, none), (4, some [0, 1, 2, 3]), (5, some [0, 1, 2, 3, 4]), (6, some [0, 1, 2, 3, 4, 5, 8, 9]), (8, some [0, 1, 2, 3, 4, 5, 6, 7]), (7, some [0, 1, 2, 3, 4, 5, 6, 8, 9]), (9, none), (10, some [0, 1, 2, 3, 4, 5, 6, 7, 8, 9]), (11, some [0, 1, 2, 3, 4, 5, 6, 7, 8, 9, 10]), (12, some [0, 1, 2, 3, 4, 5, 6, 7, 8, 9, 10, 11]), (13, some [0, 1, 2, 3, 4, 5, 6, 7, 8, 9, 10, 11, 12, 15, 16]), (15, some [0, 1, 2, 3, 4, 5, 6, 7, 8, 9, 10, 11, 12, 13, 14]), (14, some [0, 1, 2, 3, 4, 5, 6, 7, 8, 9, 10, 11, 12, 13, 15, 16]), (16, none), (17, some [0, 1, 2, 3, 4, 5, 6, 7, 8, 9, 10, 11, 12, 13, 14, 15, 16]), (18, some [0, 1, 2, 3, 4, 5, 6, 7, 8, 9, 10, 11, 12, 13, 14, 15, 16, 17]), (19, some [0, 1, 2, 3, 4, 5, 6, 7, 8, 9, 10, 11, 12, 13, 14, 15, 16, 17, 18]), (20, some [0, 1, 2, 3, 4, 5, 6, 7, 8, 9, 10, 11, 12, 13, 14, 15, 16, 17, 18, 19, 22, 23, 24]), (22, some [0, 1, 2, 3, 4, 5, 6, 7, 8, 9, 10, 11, 12, 13, 14, 15, 16, 17, 18, 19, 20, 21]), (23, some [0, 1, 2, 3, 4, 5, 6, 7, 8, 9, 10, 11, 12, 13, 14, 15, 16, 17, 18, 19, 20, 21, 22]), (21, some [0, 1, 2, 3, 4, 5, 6, 7, 8, 9, 10, 11, 12, 13, 14, 15, 16, 17, 18, 19, 20, 22, 23, 24]), (24, none), (25, some [0, 1, 2, 3, 4, 5, 6, 7, 8, 9, 10, 11, 12, 13, 14, 15, 16, 17, 18, 19, 20, 21, 22, 23, 24]), (26, some [0, 1, 2, 3, 4, 5, 6, 7, 8, 9, 10, 11, 12, 13, 14, 15, 16, 17, 18, 19, 20, 21, 22, 23, 24, 25]), (27, some [0, 1, 2, 3, 4, 5, 6, 7, 8, 9, 10, 11, 12, 13, 14, 15, 16, 17, 18, 19, 20, 21, 22, 23, 24, 25, 26]), (28, some [0, 1, 2, 3, 4, 5, 6, 7, 8, 9, 10, 11, 12, 13, 14, 15, 16, 17, 18, 19, 20, 21, 22, 23, 24, 25, 26, 27, 30, 31, 33, 34]), (30, some [0, 1, 2, 3, 4, 5, 6, 7, 8, 9, 10, 11, 12, 13, 14, 15, 16, 17, 18, 19, 20, 21, 22, 23, 24, 25, 26, 27, 28, 29, 33, 34]), (33, some [0, 1, 2, 3, 4, 5, 6, 7, 8, 9, 10, 11, 12, 13, 14, 15, 16, 17, 18, 19, 20, 21, 22, 23, 24, 25, 26, 27, 28, 29, 30, 31, 32]), (29, some [0, 1, 2, 3, 4, 5, 6, 7, 8, 9, 10, 11, 12, 13, 14, 15, 16, 17, 18, 19, 20, 21, 22, 23, 24, 25, 26, 27, 28, 30, 31, 33, 34]), (31, some [0, 1, 2, 3, 4, 5, 6, 7, 8, 9, 10, 11, 12, 13, 14, 15, 16, 17, 18, 19, 20, 21, 22, 23, 24, 25, 26, 27, 28, 29, 30, 33, 34]), (34, some [0, 1, 2, 3, 4, 5, 6, 7, 8, 9, 10, 11, 12, 13, 14, 15, 16, 17, 18, 19, 20, 21, 22, 23, 24, 25, 26, 27, 28, 29, 30, 31, 32, 33]), (32, none), (35, none), (36, some [0, 1, 2, 3, 4, 5, 6, 7, 8, 9, 10, 11, 12, 13, 14, 15, 16, 17, 18, 19, 20, 21, 22, 23, 24, 25, 26, 27, 28, 29, 30, 31, 32, 33, 34, 35]), (37, some [0, 1, 2, 3, 4, 5, 6, 7, 8, 9, 10, 11, 12, 13, 14, 15, 16, 17, 18, 19, 20, 21, 22, 23, 24, 25, 26, 27, 28, 29, 30, 31, 32, 33, 34, 35, 36]), (38, some [0, 1, 2, 3, 4, 5, 6, 7, 8, 9, 10, 11, 12, 13, 14, 15, 16, 17, 18, 19, 20, 21, 22, 23, 24, 25, 26, 27, 28, 29, 30, 31, 32, 33, 34, 35, 36, 37]), (39, none), (40, some [0, 1, 2, 3, 4, 5, 6, 7, 8, 9, 10, 11, 12, 13, 14, 15, 16, 17, 18, 19, 20, 21, 22, 23, 24, 25, 26, 27, 28, 29, 30, 31, 32, 33, 34, 35, 36, 37, 38, 39]), (41, some [0, 1, 2, 3, 4, 5, 6, 7, 8, 9, 10, 11, 12, 13, 14, 15, 16, 17, 18, 19, 20, 21, 22, 23, 24, 25, 26, 27, 28, 29, 30, 31, 32, 33, 34, 35, 36, 37, 38, 39, 40]), (42, some [0, 1, 2, 3, 4, 5, 6, 7, 8, 9, 10, 11, 12, 13, 14, 15, 16, 17, 18, 19, 20, 21, 22, 23, 24, 25, 26, 27, 28, 29, 30, 31, 32, 33, 34, 35, 36, 37, 38, 39, 40, 41, 44, 45, 46]), (44, some [0, 1, 2, 3, 4, 5, 6, 7, 8, 9, 10, 11, 12, 13, 14, 15, 16, 17, 18, 19, 20, 21, 22, 23, 24, 25, 26, 27, 28, 29, 30, 31, 32, 33, 34, 35, 36, 37, 38, 39, 40, 41, 42, 43]), (45, some [0, 1, 2, 3, 4, 5, 6, 7, 8, 9, 10, 11, 12, 13, 14, 15, 16, 17, 18, 19, 20, 21, 22, 23, 24, 25, 26, 27, 28, 29, 30, 31, 32, 33, 34, 35, 36, 37, 38, 39, 40, 41, 42, 43, 44]), (43, some [0, 1, 2, 3, 4, 5, 6, 7, 8, 9, 10, 11, 12, 13, 14, 15, 16, 17, 18, 19, 20, 21, 22, 23, 24, 25, 26, 27, 28, 29, 30, 31, 32, 33, 34, 35, 36, 37, 38, 39, 40, 41, 42, 44, 45, 46]), (46, none), (47, some [0, 1, 2, 3, 4, 5, 6, 7, 8, 9, 10, 11, 12, 13, 14, 15, 16, 17, 18, 19, 20, 21, 22, 23, 24, 25, 26, 27, 28, 29, 30, 31, 32, 33, 34, 35, 36, 37, 38, 39, 40, 41, 42, 43, 44, 45, 46]), (48, some [0, 1, 2, 3, 4, 5, 6, 7, 8, 9, 10, 11, 12, 13, 14, 15, 16, 17, 18, 19, 20, 21, 22, 23, 24, 25, 26, 27, 28, 29, 30, 31, 32, 33, 34, 35, 36, 37, 38, 39, 40, 41, 42, 43, 44, 45, 46, 47]), (49, some [0, 1, 2, 3, 4, 5, 6, 7, 8, 9, 10, 11, 12, 13, 14, 15, 16, 17, 18, 19, 20, 21, 22, 23, 24, 25, 26, 27, 28, 29, 30, 31, 32, 33, 34, 35, 36, 37, 38, 39, 40, 41, 42, 43, 44, 45, 46, 47, 48]), (50, some [0, 1, 2, 3, 4, 5, 6, 7, 8, 9, 10, 11, 12, 13, 14, 15, 16, 17, 18, 19, 20, 21, 22, 23, 24, 25, 26, 27, 28, 29, 30, 31, 32, 33, 34, 35, 36, 37, 38, 39, 40, 41, 42, 43, 44, 45, 46, 47, 48, 49])])]
theorem B38_ok : regsO B38 Tryz.f38.body = true := by kernel_rfl
theorem F38_ok : FOk Tryz.prog 38 (FI.of Tryz.f38 T38 B38) := FOk.of Tryz.func38 rfl T38_ok B38_ok Tryz.call38
def T39 : Tab := [(5, ti5), (22, ti22), (23, ti23), (25, ti25)]
theorem T39_ok : TabOk Tryz.prog T39 := .cons tk5 <| .cons tk22 <| .cons tk23 <| .cons tk25 <| .nil mixed
def B39 : SchT := []
theorem B39_ok : regsO B39 Tryz.f39.body = true := by kernel_rfl
theorem F39_ok : FOk Tryz.prog 39 (FI.of Tryz.f39 T39 B39) := FOk.of Tryz.func39 rfl T39_ok B39_ok Tryz.call39
def T40 : Tab := [(3, ti3), (4, ti4), (5, ti5), (22, ti22), (23, ti23), (25, ti25), (139, ti139)]
theorem T40_ok : TabOk Tryz.prog T40 := .cons tk3 <| .cons tk4 <| .cons tk5 <| .cons tk22 <| .cons tk23 <| .cons tk25 <| .cons tk139 <| .nil mixed
def B40 : SchT := []
theorem B40_ok : regsO B40 Tryz.f40.body = true := by kernel_rfl
theorem F40_ok : FOk Tryz.prog 40 (FI.of Tryz.f40 T40 B40) := FOk.of Tryz.func40 rfl T40_ok B40_ok Tryz.call40
def T41 : Tab := [(3, ti3), (5, ti5), (22, ti22), (26, ti26), (28, ti28), (175, ti175)]
theorem T41_ok : TabOk Tryz.prog T41 := .cons tk3 <| .cons tk5 <| .cons tk22 <| .cons tk26 <| .cons tk28 <| .cons tk175 <| .nil mixed
def B41 : SchT := [(1, [(0, some [2, 3, 5, 6, 7, 8, 10, 11, 12, 13]), (2, some [0, 1, 5, 6, 7, 8, 10, 11, 12, 13]), (5, some [0, 1, 2, 3, 4, 7, 8, 10, 11, 12, 13]), (7, some [0, 1, 2, 3, 4, 5, 6, 10, 11, 12, 13]), (10, some [0, 1, 2, 3, 4, 5, 6, 7, 8, 9, 12, 13]), (12, some [0, 1, 2, 3, 4, 5, 6, 7, 8, 9, 10, 11]), (1, some [0, 2, 3, 5, 6, 7, 8, 10, 11, 12, 13]), (3, some [0, 1, 2, 5, 6, 7, 8, 10, 11, 12, 13]), (6, some [0, 1, 2, 3, 4, 5, 7, 8, 10, 11, 12, 13]), (8, some [0, 1, 2, 3, 4, 5, 6, 7, 10, 11, 12, 13]), (11, some [0, 1, 2, 3, 4, 5, 6, 7, 8, 9, 10, 12, 13]), (13, some [0, 1, 2, 3, 4, 5, 6, 7, 8, 9, 10, 11, 12]), (4, none), (9, none), (14, none), (15, none), (16, none), (17, some [0, 1, 2, 3, 4, 5, 6, 7, 8, 9, 10, 11, 12, 13, 14, 15, 16])])]
theorem B41_ok : regsO B41 Tryz.f41.body = true := by kernel_rfl
theorem F41_ok : FOk Tryz.prog 41 (FI.of Tryz.f41 T41 B41) := FOk.of Tryz.func41 rfl T41_ok B41_ok Tryz.call41
def T42 : Tab := [(2, ti2), (3, ti3), (29, ti29), (30, ti30), (31, ti31), (32, ti32), (34, ti34), (92, ti92), (94, ti94), (148, ti148), (151, ti151)]
theorem T42_ok : TabOk Tryz.prog T42 := .cons tk2 <| .cons tk3 <| .cons tk29 <| .cons tk30 <| .cons tk31 <| .cons tk32 <| .cons tk34 <| .cons tk92 <| .cons tk94 <| .cons tk148 <| .cons tk151 <| .nil mixed
def B42 : SchT := [(1, [(0, some [3, 4, 6, 7, 9, 10]), (3, some [0, 1, 2, 6, 7, 9, 10]), (6, some [0, 1, 2, 3, 4, 5, 9, 10]), (9, some [0, 1, 2, 3, 4, 5, 6, 7, 8]), (1, some [0, 3, 4, 6, 7, 9, 10]), (4, some [0, 1, 2, 3, 6, 7, 9, 10]), (7, some [0, 1, 2, 3, 4, 5, 6, 9, 10]), (10, some [0, 1, 2, 3, 4, 5, 6, 7, 8, 9]), (2, none), (12, some [0, 1, 2, 3, 4, 5, 6, 7, 8, 9, 10, 11]), (5, none), (8, none), (11, none), (13, none), (14, some [0, 1, 2, 3, 4, 5, 6, 7, 8, 9, 10, 11, 12, 13]), (15, none), (16, some [0, 1, 2, 3, 4, 5, 6, 7, 8, 9, 10, 11, 12, 13, 14, 15]), (17, none), (18, some [0, 1, 2, 3, 4, 5, 6, 7, 8, 9, 10, 11, 12, 13, 14, 15, 16, 17]), (19, none)]), (5, [(0, some [2, 3, 4, 5, 6, 7, 8, 9, 10]), (2, some [0, 1, 3, 4, 5, 6, 7, 8, 9, 10]), (3, some [0, 1, 2, 5]), (5, some [0, 1, 2, 3, 4]), (1, some [0, 2, 3, 4, 5, 6, 7, 8, 9, 10]), (4, none), (6, some [0, 1, 2, 3, 4, 5]), (7, some [0, 1, 2, 3, 4, 5, 6]), (8, some [0, 1, 2, 3, 4, 5, 6, 7]), (9, none), (10, none), (11, some [0, 1, 2, 3, 4, 5, 6, 7, 8, 9, 10]), (12, some [0, 1, 2, 3, 4, 5, 6, 7, 8, 9, 10, 11]), (13, some [0, 1, 2, 3, 4, 5, 6, 7, 8, 9, 10, 11, 12]), (14, none)])]
theorem B42_ok : regsO B42 Tryz.f42.body = true := by kernel_rfl
theorem F42_ok : FOk Tryz.prog 42 (FI.of Tryz.f42 T42 B42) := FOk.of Tryz.func42 rfl T42_ok B42_ok Tryz.call42
def T43 : Tab := [(4, ti4), (5, ti5), (22, ti22), (28, ti28), (34, ti34), (56, ti56)]
theorem T43_ok : TabOk Tryz.prog T43 := .cons tk4 <| .cons tk5 <| .cons tk22 <| .cons tk28 <| .cons tk34 <| .cons tk56 <| .nil mixed
def B43 : SchT := []
theorem B43_ok : regsO B43 Tryz.f43.body = true := by kernel_rfl
theorem F43_ok : FOk Tryz.prog 43 (FI.of Tryz.f43 T43 B43) := FOk.of Tryz.func43 rfl T43_ok B43_ok Tryz.call43
def T44 : Tab := [(5, ti5), (22, ti22), (25, ti25), (28, ti28), (34, ti34), (41, ti41), (56, ti56)]
theorem T44_ok : TabOk Tryz.prog T44 := .cons tk5 <| .cons tk22 <| .cons tk25 <| .cons tk28 <| .cons tk34 <| .cons tk41 <| .cons tk56 <| .nil mixed
def B44 : SchT := [(3, [(0, some [3, 4]), (3, some [0, 1, 2, 5, 6]), (1, some [0, 3, 4]), (4, some [0, 1, 2, 3, 5, 6]), (2, none), (5, some [0, 1, 2, 3, 4]), (6, none), (7, some [0, 1, 2, 3, 4, 5, 6]), (8, none)])]
theorem B44_ok : regsO B44 Tryz.f44.body = true := by kernel_rfl
theorem F44_ok : FOk Tryz.prog 44 (FI.of Tryz.f44 T44 B44) := FOk.of Tryz.func44 rfl T44_ok B44_ok Tryz.call44
def T45 : Tab := [(3, ti3), (4, ti4), (5, ti5), (25, ti25), (28, ti28), (34, ti34), (41, ti41)]
theorem T45_ok : TabOk Tryz.prog T45 := .cons tk3 <| .cons tk4 <| .cons tk5 <| .cons tk25 <| .cons tk28 <| .cons tk34 <| .cons tk41 <| .nil mixed
def B45 : SchT := []
theorem B45_ok : regsO B45 Tryz.f45.body = true := by kernel_rfl
theorem F45_ok : FOk Tryz.prog 45 (FI.of Tryz.f45 T45 B45) := FOk.of Tryz.func45 rfl T45_ok B45_ok Tryz.call45
def T46 : Tab := [(4, ti4), (5, ti5), (25, ti25), (28, ti28), (41, ti41)]
theorem T46_ok : TabOk Tryz.prog T46 := .cons tk4 <| .cons tk5 <| .cons tk25 <| .cons tk28 <| .cons tk41 <| .nil mixed
def B46 : SchT := []
theorem B46_ok : regsO B46 Tryz.f46.body = true := by kernel_rfl
theorem F46_ok : FOk Tryz.prog 46 (FI.of Tryz.f46 T46 B46) := FOk.of Tryz.func46 rfl T46_ok B46_ok Tryz.call46
def T47 : Tab := [(5, ti5), (9, ti9), (22, ti22), (23, ti23), (25, ti25)]
theorem T47_ok : TabOk Tryz.prog T47 := .cons tk5 <| .cons tk9 <| .cons tk22 <| .cons tk23 <| .cons tk25 <| .nil mixed
def B47 : SchT := []
theorem B47_ok : regsO B47 Tryz.f47.body = true := by kernel_rfl
theorem F47_ok : FOk Tryz.prog 47 (FI.of Tryz.f47 T47 B47) := FOk.of Tryz.func47 rfl T47_ok B47_ok Tryz.call47
def T48 : Tab := [(2, ti2), (3, ti3), (4, ti4), (5, ti5), (22, ti22), (29, ti29), (30, ti30), (31, ti31), (32, ti32), (34, ti34), (92, ti92), (94, ti94), (148, ti148), (151, ti151)]
theorem T48_ok : TabOk Tryz.prog T48 := .cons tk2 <| .cons tk3 <| .cons tk4 <| .cons tk5 <| .cons tk22 <| .cons tk29 <| .cons tk30 <| .cons tk31 <| .cons tk32 <| .cons tk34 <| .cons tk92 <| .cons tk94 <| .cons tk148 <| .cons tk151 <| .nil mixed
def B48 : SchT := [(6, [(0, some [2, 6, 7, 8, 9, 10, 11]), (2, some [0, 1, 6, 7, 8, 9, 10, 11]), (6, some [0, 1, 2, 3, 4, 5, 8]), (8, some [0, 1, 2, 3, 4, 5, 6, 7]), (1, some [0, 2, 6, 7, 8, 9, 10, 11]), (3, some [0, 1, 2, 6, 7, 8, 9, 10, 11]), (4, some [0, 1, 2, 3, 6, 7, 8, 9, 10, 11]), (5, some [0, 1, 2, 3, 4, 6, 7, 8, 9, 10, 11]), (7, none), (9, some [0, 1, 2, 3, 4, 5, 6, 7, 8]), (10, some [0, 1, 2, 3, 4, 5, 6, 7, 8, 9]), (11, none), (12, some [0, 1, 2, 3, 4, 5, 6, 7, 8, 9, 10, 11]), (13, some [0, 1, 2, 3, 4, 5, 6, 7, 8, 9, 10, 11, 12]), (14, some [0, 1, 2, 3, 4, 5, 6, 7, 8, 9, 10, 11, 12, 13, 16, 20, 21, 22, 23, 24, 25]), (16, some [0, 1, 2, 3, 4, 5, 6, 7, 8, 9, 10, 11, 12, 13, 14, 15, 20, 21, 22, 23, 24, 25]), (20, some [0, 1, 2, 3, 4, 5, 6, 7, 8, 9, 10, 11, 12, 13, 14, 15, 16, 17, 18, 19, 22]), (22, some [0, 1, 2, 3, 4, 5, 6, 7, 8, 9, 10, 11, 12, 13, 14, 15, 16, 17, 18, 19, 20, 21]), (15, some [0, 1, 2, 3, 4, 5, 6, 7, 8, 9, 10, 11, 12, 13, 14, 16, 20, 21, 22, 23, 24, 25]), (17, some [0, 1, 2, 3, 4, 5, 6, 7, 8, 9, 10, 11, 12, 13, 14, 15, 16, 20, 21, 22, 23, 24, 25]), (18, some [0, 1, 2, 3, 4, 5, 6, 7, 8, 9, 10, 11, 12, 13, 14, 15, 16, 17, 20, 21, 22, 23, 24, 25]), (19, some [0, 1, 2, 3, 4, 5, 6, 7, 8, 9, 10, 11, 12, 13, 14, 15, 16, 17, 18, 20, 21, 22, 23, 24, 25]), (21, none), (23, some [0, 1, 2, 3, 4, 5, 6, 7, 8, 9, 10, 11, 12, 13, 14, 15, 16, 17, 18, 19, 20, 21, 22]), (24, some [0, 1, 2, 3, 4, 5, 6, 7, 8, 9, 10, 11, 12, 13, 14, 15, 16, 17, 18, 19, 20, 21, 22, 23]), (25, none), (26, some [0, 1, 2, 3, 4, 5, 6, 7, 8, 9, 10, 11, 12, 13, 14, 15, 16, 17, 18, 19, 20, 21, 22, 23, 24, 25]), (27, some [0, 1, 2, 3, 4, 5, 6, 7, 8, 9, 10, 11, 12, 13, 14, 15, 16, 17, 18, 19, 20, 21, 22, 23, 24, 25, 26]), (28, some [0, 1, 2, 3, 4, 5, 6, 7, 8, 9, 10, 11, 12, 13, 14, 15, 16, 17, 18, 19, 20, 21, 22, 23, 24, 25, 26, 27]), (29, some [0, 1, 2, 3, 4, 5, 6, 7, 8, 9, 10, 11, 12, 13, 14, 15, 16, 17, 18, 19, 20, 21, 22, 23, 24, 25, 26, 27, 28, 31, 35, 36, 37, 38, 39, 40]), (31, some [0, 1, 2, 3, 4, 5, 6, 7, 8, 9, 10, 11, 12, 13, 14, 15, 16, 17, 18, 19, 20, 21, 22, 23, 24, 25, 26, 27, 28, 29, 30, 35, 36, 37, 38, 39, 40]), (35, some [0, 1, 2, 3, 4, 5, 6, 7, 8, 9, 10, 11, 12, 13, 14, 15, 16, 17, 18, 19, 20, 21, 22, 23, 24, 25, 26, 27, 28, 29, 30, 31, 32, 33, 34, 37]), (37, some [0, 1, 2, 3, 4, 5, 6, 7, 8, 9, 10, 11, 12, 13, 14, 15, 16, 17, 18, 19, 20, 21, 22, 23, 24, 25, 26, 27, 28, 29, 30, 31, 32, 33, 34, 35, 36]), (30, some [0, 1, 2, 3, 4, 5, 6, 7, 8, 9, 10, 11, 12, 13, 14, 15, 16, 17, 18, 19, 20, 21, 22, 23, 24, 25, 26, 27, 28, 29, 31, 35, 36, 37, 38, 39, 40]), (32, some [0, 1, 2, 3, 4, 5, 6, 7, 8, 9, 10, 11, 12, 13, 14, 15, 16, 17, 18, 19, 20, 21, 22, 23, 24, 25, 26, 27, 28, 29, 30, 31, 35, 36, 37, 38, 39, 40]), (33, some [0, 1, 2, 3, 4, 5, 6, 7, 8, 9, 10, 11, 12, 13, 14, 15, 16, 17, 18, 19, 20, 21, 22, 23, 24, 25, 26, 27, 28, 29, 30, 31, 32, 35, 36, 37, 38, 39, 40]), (34, some [0, 1, 2, 3, 4, 5, 6, 7, 8, 9, 10, 11, 12, 13, 14, 15, 16, 17, 18, 19, 20, 21, 22, 23, 24, 25, 26, 27, 28, 29, 30, 31, 32, 33, 35, 36, 37, 38, 39, 40]), (36, none), (38, some [0, 1, 2, 3, 4, 5, 6, 7, 8, 9, 10, 11, 12, 13, 14, 15, 16, 17, 18, 19, 20, 21, 22, 23, 24, 25, 26, 27, 28, 29, 30, 31, 32, 33, 34, 35, 36, 37]), (39, some [0, 1, 2, 3, 4, 5, 6, 7, 8, 9, 10, 11, 12, 13, 14, 15, 16, 17, 18, 19, 20, 21, 22, 23, 24, 25, 26, 27, 28, 29, 30, 31, 32, 33, 34, 35, 36, 37, 38]), (40, none), (41, none), (42, some [0, 1, 2, 3, 4, 5, 6, 7, 8, 9, 10, 11, 12, 13, 14, 15, 16, 17, 18, 19, 20, 21, 22, 23, 24, 25, 26, 27, 28, 29, 30, 31, 32, 33, 34, 35, 36, 37, 38, 39, 40, 41]), (43, some [0, 1, 2, 3, 4, 5, 6, 7, 8, 9, 10, 11, 12, 13, 14, 15, 16, 17, 18, 19, 20, 21, 22, 23, 24, 25, 26, 27, 28, 29, 30, 31, 32, 33, 34, 35, 36, 37, 38, 39, 40, 41, 42])]), (12, [(0, some [2, 5, 6, 7, 8, 9]), (2, some [0, 1, 5, 6, 7, 8, 9]), (5, some [0, 1, 2, 3, 4, 7]), (7, some [0, 1, 2, 3, 4, 5, 6]), (1, some [0, 2, 5, 6, 7, 8, 9]), (3, some [0, 1, 2, 5, 6, 7, 8, 9]), (4, some [0, 1, 2, 3, 5, 6, 7, 8, 9]), (6, none), (8, some [0, 1, 2, 3, 4, 5, 6, 7]), (9, none), (10, some [0, 1, 2, 3, 4, 5, 6, 7, 8, 9])]), (18, [(0, some [2, 5, 6, 7, 8, 9]), (2, some [0, 1, 5, 6, 7, 8, 9]), (5, some [0, 1, 2, 3, 4, 7]), (7, some [0, 1, 2, 3, 4, 5, 6]), (1, some [0, 2, 5, 6, 7, 8, 9]), (3, some [0, 1, 2, 5, 6, 7, 8, 9]), (4, some [0, 1, 2, 3, 5, 6, 7, 8, 9]), (6, none), (8, some [0, 1, 2, 3, 4, 5, 6, 7]), (9, none), (10, some [0, 1, 2, 3, 4, 5, 6, 7, 8, 9])])]
theorem B48_ok : regsO B48 Tryz.f48.body = true := by kernel_rfl
theorem F48_ok : FOk Tryz.prog 48 (FI.of Tryz.f48 T48 B48) := FOk.of Tryz.func48 rfl T48_ok B48_ok Tryz.call48
def T49 : Tab := [(2, ti2), (3, ti3), (5, ti5), (22, ti22), (29, ti29), (30, ti30), (31, ti31), (32, ti32), (34, ti34), (94, ti94), (148, ti148), (151, ti151)]
theorem T49_ok : TabOk Tryz.prog T49 := .cons tk2 <| .cons tk3 <| .cons tk5 <| .cons tk22 <| .cons tk29 <| .cons tk30 <| .cons tk31 <| .cons tk32 <| .cons tk34 <| .cons tk94 <| .cons tk148 <| .cons tk151 <| .nil mixed
def B49 : SchT := []
theorem B49_ok : regsO B49 Tryz.f49.body = true := by kernel_rfl
theorem F49_ok : FOk Tryz.prog 49 (FI.of Tryz.f49 T49 B49) := FOk.of Tryz.func49 rfl T49_ok B49_ok Tryz.call49
def T50 : Tab := [(3, ti3), (5, ti5), (22, ti22), (23, ti23)]
theorem T50_ok : TabOk Tryz.prog T50 := .cons tk3 <| .cons tk5 <| .cons tk22 <| .cons tk23 <| .nil mixed
def B50 : SchT := []
theorem B50_ok : regsO B50 Tryz.f50.body = true := by kernel_rfl
theorem F50_ok : FOk Tryz.prog 50 (FI.of Tryz.f50 T50 B50) := FOk.of Tryz.func50 rfl T50_ok B50_ok Tryz.call50
def T51 : Tab := [(3, ti3), (4, ti4), (5, ti5), (82, ti82), (116, ti116), (118, ti118), (122, ti122), (123, ti123), (125, ti125)]
theorem T51_ok : TabOk Tryz.prog T51 := .cons tk3 <| .cons tk4 <| .cons tk5 <| .cons tk82 <| .cons tk116 <| .cons tk118 <| .cons tk122 <| .cons tk123 <| .cons tk125 <| .nil mixed
def B51 : SchT := [(7, [(0, some [1, 2]), (1, some [0, 2, 3, 4]), (3, some [0, 1, 2]), (4, some [0, 1, 2, 3]), (2, none), (5, some [0, 1, 2, 3, 4]), (6, some [0, 1, 2, 3, 4, 5]), (7, none)])]
theorem B51_ok : regsO B51 Tryz.f51.body = true := by kernel_rfl
theorem F51_ok : FOk Tryz.prog 51 (FI.of Tryz.f51 T51 B51) := FOk.of Tryz.func51 rfl T51_ok B51_ok Tryz.call51
def T52 : Tab := [(3, ti3), (4, ti4), (5, ti5), (22, ti22), (73, ti73)]
theorem T52_ok : TabOk Tryz.prog T52 := .cons tk3 <| .cons tk4 <| .cons tk5 <| .cons tk22 <| .cons tk73 <| .nil mixed
def B52 : SchT := []
theorem B52_ok : regsO B52 Tryz.f52.body = true := by kernel_rfl
theorem F52_ok : FOk Tryz.prog 52 (FI.of Tryz.f52 T52 B52) := FOk.of Tryz.func52 rfl T52_ok B52_ok Tryz.call52
def T53 : Tab := [(5, ti5), (74, ti74), (122, ti122), (123, ti123), (125, ti125)]
theorem T53_ok : TabOk Tryz.prog T53 := .cons tk5 <| .cons tk74 <| .cons tk122 <| .cons tk123 <| .cons tk125 <| .nil mixed
def B53 : SchT := []
theorem B53_ok : regsO B53 Tryz.f53.body = true := by kernel_rfl
theorem F53_ok : FOk Tryz.prog 53 (FI.of Tryz.f53 T53 B53) := FOk.of Tryz.func53 rfl T53_ok B53_ok Tryz.call53
def T54 : Tab := [(3, ti3), (5, ti5), (23, ti23), (25, ti25), (41, ti41), (53, ti53), (56, ti56)]
theorem T54_ok : TabOk Tryz.prog T54 := .cons tk3 <| .cons tk5 <| .cons tk23 <| .cons tk25 <| .cons tk41 <| .cons tk53 <| .cons tk56 <| .nil mixed
def B54 : SchT := []
theorem B54_ok : regsO B54 Tryz.f54.body = true := by kernel_rfl
theorem F54_ok : FOk Tryz.prog 54 (FI.of Tryz.f54 T54 B54) := FOk.of Tryz.func54 rfl T54_ok B54_ok Tryz.call54
def T55 : Tab := [(4, ti4), (5, ti5), (22, ti22), (25, ti25), (28, ti28), (34, ti34), (41, ti41), (42, ti42), (73, ti73), (74, ti74), (82, ti82), (119, ti119), (120, ti120), (122, ti122), (126, ti126), (129, ti129), (162, ti162)]
theorem T55_ok : TabOk Tryz.prog T55 := .cons tk4 <| .cons tk5 <| .cons tk22 <| .cons tk25 <| .cons tk28 <| .cons tk34 <| .cons tk41 <| .cons tk42 <| .cons tk73 <| .cons tk74 <| .cons tk82 <| .cons tk119 <| .cons tk120 <| .cons tk122 <| .cons tk126 <| .cons tk129 <| .cons tk162 <| .nil mixed
def B55 : SchT := [(4, [(0, some []), (1, some [0]), (2, some [0, 1]), (3, some [0, 1, 2, 7, 8]), (4, some [0, 1, 2, 3, 7, 8]), (5, some [0, 1, 2, 3, 4, 7, 8]), (7, some [0, 1, 2, 3, 4, 5, 6]), (6, some [0, 1, 2, 3, 4, 5, 7, 8]), (8, none), (9, some [0, 1, 2, 3, 4, 5, 6, 7, 8]), (10, some [0, 1, 2, 3, 4, 5, 6, 7, 8, 9])]), (5, [(0, some [4, 5, 6, 7, 8, 9, 10, 11, 12, 13, 14, 15, 16, 17, 18, 19, 20, 21, 22, 23, 24, 25, 26, 27, 28, 29, 30, 31, 32, 33]), (1, some [0, 4, 5, 6, 7, 8, 9, 10, 11, 12, 13, 14, 15, 16, 17, 18, 19, 20, 21, 22, 23, 24, 25, 26, 27, 28, 29, 30, 31, 32, 33]), (2, some [0, 1, 4, 5, 6, 7, 8, 9, 10, 11, 12, 13, 14, 15, 16, 17, 18, 19, 20, 21, 22, 23, 24, 25, 26, 27, 28, 29, 30, 31, 32, 33]), (5, some [0, 1, 2, 3, 4, 14, 15, 16, 17, 18, 19, 20, 21, 22, 23, 24, 25, 26, 27, 28, 29]), (6, some [0, 1, 2, 3, 4, 5, 14, 15, 16, 17, 18, 19, 20, 21, 22, 23, 24, 25, 26, 27, 28, 29]), (7, some [0, 1, 2, 3, 4, 5, 6, 14, 15, 16, 17, 18, 19, 20, 21, 22, 23, 24, 25, 26, 27, 28, 29]), (14, some [0, 1, 2, 3, 4, 5, 6, 7, 8, 9, 10, 11, 12, 13, 18, 19, 20, 21, 22, 23, 24, 25, 26, 27, 28, 29]), (15, some [0, 1, 2, 3, 4, 5, 6, 7, 8, 9, 10, 11, 12, 13, 14, 18, 19, 20, 21, 22, 23, 24, 25, 26, 27, 28, 29]), (16, some [0, 1, 2, 3, 4, 5, 6, 7, 8, 9, 10, 11, 12, 13, 14, 15, 18, 19, 20, 21, 22, 23, 24, 25, 26, 27, 28, 29]), (18, some [0, 1, 2, 3, 4, 5, 6, 7, 8, 9, 10, 11, 12, 13, 14, 15, 16, 17, 22, 23, 24, 25, 26, 27, 28, 29]), (19, some [0, 1, 2, 3, 4, 5, 6, 7, 8, 9, 10, 11, 12, 13, 14, 15, 16, 17, 18, 22, 23, 24, 25, 26, 27, 28, 29]), (20, some [0, 1, 2, 3, 4, 5, 6, 7, 8, 9, 10, 11, 12, 13, 14, 15, 16, 17, 18, 19, 22, 23, 24, 25, 26, 27, 28, 29]), (22, some [0, 1, 2, 3, 4, 5, 6, 7, 8, 9, 10, 11, 12, 13, 14, 15, 16, 17, 18, 19, 20, 21]), (23, some [0, 1, 2, 3, 4, 5, 6, 7, 8, 9, 10, 11, 12, 13, 14, 15, 16, 17, 18, 19, 20, 21, 22]), (24, some [0, 1, 2, 3, 4, 5, 6, 7, 8, 9, 10, 11, 12, 13, 14, 15, 16, 17, 18, 19, 20, 21, 22, 23]), (3, some [0, 1, 2, 4, 5, 6, 7, 8, 9, 10, 11, 12, 13, 14, 15, 16, 17, 18, 19, 20, 21, 22, 23, 24, 25, 26, 27, 28, 29, 30, 31, 32, 33]), (4, some [0, 1, 2, 3, 5, 6, 7, 8, 9, 10, 11, 12, 13, 14, 15, 16, 17, 18, 19, 20, 21, 22, 23, 24, 25, 26, 27, 28, 29]), (8, some [0, 1, 2, 3, 4, 5, 6, 7, 14, 15, 16, 17, 18, 19, 20, 21, 22, 23, 24, 25, 26, 27, 28, 29]), (9, some [0, 1, 2, 3, 4, 5, 6, 7, 8, 14, 15, 16, 17, 18, 19, 20, 21, 22, 23, 24, 25, 26, 27, 28, 29]), (10, some [0, 1, 2, 3, 4, 5, 6, 7, 8, 9, 14, 15, 16, 17, 18, 19, 20, 21, 22, 23, 24, 25, 26, 27, 28, 29]), (11, some [0, 1, 2, 3, 4, 5, 6, 7, 8, 9, 10, 14, 15, 16, 17, 18, 19, 20, 21, 22, 23, 24, 25, 26, 27, 28, 29]), (12, some [0, 1, 2, 3, 4, 5, 6, 7, 8, 9, 10, 11, 14, 15, 16, 17, 18, 19, 20, 21, 22, 23, 24, 25, 26, 27, 28, 29]), (13, some [0, 1, 2, 3, 4, 5, 6, 7, 8, 9, 10, 11, 12, 14, 15, 16, 17, 18, 19, 20, 21, 22, 23, 24, 25, 26, 27, 28, 29]), (17, some [0, 1, 2, 3, 4, 5, 6, 7, 8, 9, 10, 11, 12, 13, 14, 15, 16, 18, 19, 20, 21, 22, 23, 24, 25, 26, 27, 28, 29]), (21, some [0, 1, 2, 3, 4, 5, 6, 7, 8, 9, 10, 11, 12, 13, 14, 15, 16, 17, 18, 19, 20, 22, 23, 24, 25, 26, 27, 28, 29]), (25, none), (26, some [0, 1, 2, 3, 4, 5, 6, 7, 8, 9, 10, 11, 12, 13, 14, 15, 16, 17, 18, 19, 20, 21, 22, 23, 24, 25]), (27, some [0, 1, 2, 3, 4, 5, 6, 7, 8, 9, 10, 11, 12, 13, 14, 15, 16, 17, 18, 19, 20, 21, 22, 23, 24, 25, 26]), (28, some [0, 1, 2, 3, 4, 5, 6, 7, 8, 9, 10, 11, 12, 13, 14, 15, 16, 17, 18, 19, 20, 21, 22, 23, 24, 25, 26, 27]), (29, none), (30, none), (31, some [0, 1, 2, 3, 4, 5, 6, 7, 8, 9, 10, 11, 12, 13, 14, 15, 16, 17, 18, 19, 20, 21, 22, 23, 24, 25, 26, 27, 28, 29, 30]), (32, some [0, 1, 2, 3, 4, 5, 6, 7, 8, 9, 10, 11, 12, 13, 14, 15, 16, 17, 18, 19, 20, 21, 22, 23, 24, 25, 26, 27, 28, 29, 30, 31, 33]), (33, some [0, 1, 2, 3, 4, 5, 6, 7, 8, 9, 10, 11, 12, 13, 14, 15, 16, 17, 18, 19, 20, 21, 22, 23, 24, 25, 26, 27, 28, 29, 30, 31, 32, 34, 35, 36]), (34, some [0, 1, 2, 3, 4, 5, 6, 7, 8, 9, 10, 11, 12, 13, 14, 15, 16, 17, 18, 19, 20, 21, 22, 23, 24, 25, 26, 27, 28, 29, 30, 31, 32, 33]), (35, some [0, 1, 2, 3, 4, 5, 6, 7, 8, 9, 10, 11, 12, 13, 14, 15, 16, 17, 18, 19, 20, 21, 22, 23, 24, 25, 26, 27, 28, 29, 30, 31, 32, 33, 34]), (36, none), (37, some [0, 1, 2, 3, 4, 5, 6, 7, 8, 9, 10, 11, 12, 13, 14, 15, 16, 17, 18, 19, 20, 21, 22, 23, 24, 25, 26, 27, 28, 29, 30, 31, 32, 33, 34, 35, 36])]), (9, [(0, some [4, 5, 6, 7, 8, 9, 10, 11, 12, 13, 14, 15, 16, 17, 18, 19, 20, 21, 22, 23, 24, 25, 26]), (1, some [0, 4, 5, 6, 7, 8, 9, 10, 11, 12, 13, 14, 15, 16, 17, 18, 19, 20, 21, 22, 23, 24, 25, 26]), (2, some [0, 1, 4, 5, 6, 7, 8, 9, 10, 11, 12, 13, 14, 15, 16, 17, 18, 19, 20, 21, 22, 23, 24, 25, 26]), (5, some [0, 1, 2, 3, 4, 14, 15, 16, 17, 18, 19, 20, 21, 22]), (6, some [0, 1, 2, 3, 4, 5, 14, 15, 16, 17, 18, 19, 20, 21, 22]), (7, some [0, 1, 2, 3, 4, 5, 6, 14, 15, 16, 17, 18, 19, 20, 21, 22]), (15, some [0, 1, 2, 3, 4, 5, 6, 7, 8, 9, 10, 11, 12, 13, 14]), (16, some [0, 1, 2, 3, 4, 5, 6, 7, 8, 9, 10, 11, 12, 13, 14, 15]), (17, some [0, 1, 2, 3, 4, 5, 6, 7, 8, 9, 10, 11, 12, 13, 14, 15, 16]), (3, some [0, 1, 2, 4, 5, 6, 7, 8, 9, 10, 11, 12, 13, 14, 15, 16, 17, 18, 19, 20, 21, 22, 23, 24, 25, 26]), (4, some [0, 1, 2, 3, 5, 6, 7, 8, 9, 10, 11, 12, 13, 14, 15, 16, 17, 18, 19, 20, 21, 22]), (8, some [0, 1, 2, 3, 4, 5, 6, 7, 14, 15, 16, 17, 18, 19, 20, 21, 22]), (9, some [0, 1, 2, 3, 4, 5, 6, 7, 8, 14, 15, 16, 17, 18, 19, 20, 21, 22]), (10, some [0, 1, 2, 3, 4, 5, 6, 7, 8, 9, 14, 15, 16, 17, 18, 19, 20, 21, 22]), (11, some [0, 1, 2, 3, 4, 5, 6, 7, 8, 9, 10, 14, 15, 16, 17, 18, 19, 20, 21, 22]), (12, some [0, 1, 2, 3, 4, 5, 6, 7, 8, 9, 10, 11, 14, 15, 16, 17, 18, 19, 20, 21, 22]), (13, some [0, 1, 2, 3, 4, 5, 6, 7, 8, 9, 10, 11, 12, 14, 15, 16, 17, 18, 19, 20, 21, 22]), (14, some [0, 1, 2, 3, 4, 5, 6, 7, 8, 9, 10, 11, 12, 13, 15, 16, 17, 18, 19, 20, 21, 22]), (18, none), (19, some [0, 1, 2, 3, 4, 5, 6, 7, 8, 9, 10, 11, 12, 13, 14, 15, 16, 17, 18]), (20, some [0, 1, 2, 3, 4, 5, 6, 7, 8, 9, 10, 11, 12, 13, 14, 15, 16, 17, 18, 19]), (21, some [0, 1, 2, 3, 4, 5, 6, 7, 8, 9, 10, 11, 12, 13, 14, 15, 16, 17, 18, 19, 20]), (22, none), (23, none), (24, some [0, 1, 2, 3, 4, 5, 6, 7, 8, 9, 10, 11, 12, 13, 14, 15, 16, 17, 18, 19, 20, 21, 22, 23]), (25, some [0, 1, 2, 3, 4, 5, 6, 7, 8, 9, 10, 11, 12, 13, 14, 15, 16, 17, 18, 19, 20, 21, 22, 23, 24, 26]), (26, some [0, 1, 2, 3, 4, 5, 6, 7, 8, 9, 10, 11, 12, 13, 14, 15, 16, 17, 18, 19, 20, 21, 22, 23, 24, 25, 27, 28, 29]), (27, some [0, 1, 2, 3, 4, 5, 6, 7, 8, 9, 10, 11, 12, 13, 14, 15, 16, 17, 18, 19, 20, 21, 22, 23, 24, 25, 26]), (28, some [0, 1, 2, 3, 4, 5, 6, 7, 8, 9, 10, 11, 12, 13, 14, 15, 16, 17, 18, 19, 20, 21, 22, 23, 24, 25, 26, 27]), (29, none), (30, some [0, 1, 2, 3, 4, 5, 6, 7, 8, 9, 10, 11, 12, 13, 14, 15, 16, 17, 18, 19, 20, 21, 22, 23, 24, 25, 26, 27, 28, 29])])]
theorem B55_ok : regsO B55 Tryz.f55.body = true := by kernel_rfl
theorem F55_ok : FOk Tryz.prog 55 (FI.of Tryz.f55 T55 B55) := FOk.of Tryz.func55 rfl T55_ok B55_ok Tryz.call55
def T56 : Tab := [(3, ti3), (22, ti22), (25, ti25), (41, ti41), (42, ti42), (74, ti74), (119, ti119), (122, ti122), (125, ti125), (126, ti126), (129, ti129)]
theorem T56_ok : TabOk Tryz.prog T56 := .cons tk3 <| .cons tk22 <| .cons tk25 <| .cons tk41 <| .cons tk42 <| .cons tk74 <| .cons tk119 <| .cons tk122 <| .cons tk125 <| .cons tk126 <| .cons tk129 <| .nil mixed
def B56 : SchT := [(1, [(0, some [1, 2, 3, 4, 5, 6, 7, 8, 9, 10, 11, 12, 13]), (1, some [0, 5, 6, 7, 8, 9, 10, 11, 12]), (2, some [0, 1, 5, 6, 7, 8, 9, 10, 11, 12]), (3, some [0, 1, 2, 5, 6, 7, 8, 9, 10, 11, 12]), (5, some [0, 1, 2, 3, 4]), (6, some [0, 1, 2, 3, 4, 5]), (7, some [0, 1, 2, 3, 4, 5, 6]), (4, some [0, 1, 2, 3, 5, 6, 7, 8, 9, 10, 11, 12]), (8, none), (9, some [0, 1, 2, 3, 4, 5, 6, 7, 8]), (10, some [0, 1, 2, 3, 4, 5, 6, 7, 8, 9]), (11, some [0, 1, 2, 3, 4, 5, 6, 7, 8, 9, 10]), (12, none), (13, some [0, 1, 2, 3, 4, 5, 6, 7, 8, 9, 10, 11, 12]), (14, some [0, 1, 2, 3, 4, 5, 6, 7, 8, 9, 10, 11, 12, 13]), (15, some [0, 1, 2, 3, 4, 5, 6, 7, 8, 9, 10, 11, 12, 13, 14]), (16, none)])]
theorem B56_ok : regsO B56 Tryz.f56.body = true := by kernel_rfl
theorem F56_ok : FOk Tryz.prog 56 (FI.of Tryz.f56 T56 B56) := FOk.of Tryz.func56 rfl T56_ok B56_ok Tryz.call56
def T57 : Tab := [(5, ti5), (25, ti25), (41, ti41), (74, ti74), (119, ti119), (122, ti122), (126, ti126), (129, ti129)]
theorem T57_ok : TabOk Tryz.prog T57 := .cons tk5 <| .cons tk25 <| .cons tk41 <| .cons tk74 <| .cons tk119 <| .cons tk122 <| .cons tk126 <| .cons tk129 <| .nil mixed
def B57 : SchT := []
theorem B57_ok : regsO B57 Tryz.f57.body = true := by kernel_rfl
theorem F57_ok : FOk Tryz.prog 57 (FI.of Tryz.f57 T57 B57) := FOk.of Tryz.func57 rfl T57_ok B57_ok Tryz.call57
def T58 : Tab := [(22, ti22), (73, ti73), (77, ti77), (82, ti82), (119, ti119), (122, ti122), (129, ti129), (132, ti132)]
theorem T58_ok : TabOk Tryz.prog T58 := .cons tk22 <| .cons tk73 <| .cons tk77 <| .cons tk82 <| .cons tk119 <| .cons tk122 <| .cons tk129 <| .cons tk132 <| .nil mixed
def B58 : SchT := [(1, [(0, some [8, 9, 10, 11, 12, 13, 14, 15]), (1, some [0, 8, 9, 10, 11, 12, 13, 14, 15]), (2, some [0, 1, 8, 9, 10, 11, 12, 13, 14, 15]), (8, some [0, 1, 2, 3, 4, 5, 6, 7, 16, 17]), (9, some [0, 1, 2, 3, 4, 5, 6, 7, 8, 16, 17]), (10, some [0, 1, 2, 3, 4, 5, 6, 7, 8, 9, 16, 17]), (3, some [0, 1, 2, 8, 9, 10, 11, 12, 13, 14, 15]), (4, some [0, 1, 2, 3, 8, 9, 10, 11, 12, 13, 14, 15]), (5, some [0, 1, 2, 3, 4, 8, 9, 10, 11, 12, 13, 14, 15]), (6, some [0, 1, 2, 3, 4, 5, 8, 9, 10, 11, 12, 13, 14, 15]), (7, some [0, 1, 2, 3, 4, 5, 6, 8, 9, 10, 11, 12, 13, 14, 15]), (16, some [0, 1, 2, 3, 4, 5, 6, 7, 8, 9, 10, 11, 12, 13, 14, 15]), (11, some [0, 1, 2, 3, 4, 5, 6, 7, 8, 9, 10, 16, 17]), (12, some [0, 1, 2, 3, 4, 5, 6, 7, 8, 9, 10, 11, 16, 17]), (13, some [0, 1, 2, 3, 4, 5, 6, 7, 8, 9, 10, 11, 12, 16, 17]), (14, some [0, 1, 2, 3, 4, 5, 6, 7, 8, 9, 10, 11, 12, 13, 16, 17]), (15, some [0, 1, 2, 3, 4, 5, 6, 7, 8, 9, 10, 11, 12, 13, 14, 16, 17]), (17, none), (18, some [0, 1, 2, 3, 4, 5, 6, 7, 8, 9, 10, 11, 12, 13, 14, 15, 16, 17]), (19, none)])]
theorem B58_ok : regsO B58 Tryz.f58.body = true := by kernel_rfl
theorem F58_ok : FOk Tryz.prog 58 (FI.of Tryz.f58 T58 B58) := FOk.of Tryz.func58 rfl T58_ok B58_ok Tryz.call58
def T59 : Tab := [(3, ti3), (5, ti5), (23, ti23)]
theorem T59_ok : TabOk Tryz.prog T59 := .cons tk3 <| .cons tk5 <| .cons tk23 <| .nil mixed
def B59 : SchT := []
theorem B59_ok : regsO B59 Tryz.f59.body = true := by kernel_rfl
theorem F59_ok : FOk Tryz.prog 59 (FI.of Tryz.f59 T59 B59) := FOk.of Tryz.func59 rfl T59_ok B59_ok Tryz.call59
def T60 : Tab := [(3, ti3), (5, ti5), (23, ti23)]
theorem T60_ok : TabOk Tryz.prog T60 := .cons tk3 <| .cons tk5 <| .cons tk23 <| .nil mixed
def B60 : SchT := []
theorem B60_ok : regsO B60 Tryz.f60.body = true := by kernel_rfl
theorem F60_ok : FOk Tryz.prog 60 (FI.of Tryz.f60 T60 B60) := FOk.of Tryz.func60 rfl T60_ok B60_ok Tryz.call60
def T61 : Tab := [(22, ti22), (25, ti25)]
theorem T61_ok : TabOk Tryz.prog T61 := .cons tk22 <| .cons tk25 <| .nil mixed
def B61 : SchT := []
theorem B61_ok : regsO B61 Tryz.f61.body = true := by kernel_rfl
theorem F61_ok : FOk Tryz.prog 61 (FI.of Tryz.f61 T61 B61) := FOk.of Tryz.func61 rfl T61_ok B61_ok Tryz.call61
def T62 : Tab := [(3, ti3), (22, ti22)]
theorem T62_ok : TabOk Tryz.prog T62 := .cons tk3 <| .cons tk22 <| .nil mixed
def B62 : SchT := []
theorem B62_ok : regsO B62 Tryz.f62.body = true := by kernel_rfl
theorem F62_ok : FOk Tryz.prog 62 (FI.of Tryz.f62 T62 B62) := FOk.of Tryz.func62 rfl T62_ok B62_ok Tryz.call62
def T63 : Tab := [(3, ti3), (5, ti5), (22, ti22), (23, ti23)]
theorem T63_ok : TabOk Tryz.prog T63 := .cons tk3 <| .cons tk5 <| .cons tk22 <| .cons tk23 <| .nil mixed
def B63 : SchT := []
theorem B63_ok : regsO B63 Tryz.f63.body = true := by kernel_rfl
theorem F63_ok : FOk Tryz.prog 63 (FI.of Tryz.f63 T63 B63) := FOk.of Tryz.func63 rfl T63_ok B63_ok Tryz.call63
def T64 : Tab := [(3, ti3), (5, ti5), (23, ti23), (170, ti170), (205, ti205)]
theorem T64_ok : TabOk Tryz.prog T64 := .cons tk3 <| .cons tk5 <| .cons tk23 <| .cons tk170 <| .cons tk205 <| .nil mixed
def B64 : SchT := []
theorem B64_ok : regsO B64 Tryz.f64.body = true := by kernel_rfl
theorem F64_ok : FOk Tryz.prog 64 (FI.of Tryz.f64 T64 B64) := FOk.of Tryz.func64 rfl T64_ok B64_ok Tryz.call64
def T65 : Tab := [(22, ti22), (28, ti28)]
theorem T65_ok : TabOk Tryz.prog T65 := .cons tk22 <| .cons tk28 <| .nil mixed
def B65 : SchT := []
theorem B65_ok : regsO B65 Tryz.f65.body = true := by kernel_rfl
theorem F65_ok : FOk Tryz.prog 65 (FI.of Tryz.f65 T65 B65) := FOk.of Tryz.func65 rfl T65_ok B65_ok Tryz.call65
def T66 : Tab := [(3, ti3), (5, ti5), (23, ti23)]
theorem T66_ok : TabOk Tryz.prog T66 := .cons tk3 <| .cons tk5 <| .cons tk23 <| .nil mixed
def B66 : SchT := []
theorem B66_ok : regsO B66 Tryz.f66.body = true := by kernel_rfl
theorem F66_ok : FOk Tryz.prog 66 (FI.of Tryz.f66 T66 B66) := FOk.of Tryz.func66 rfl T66_ok B66_ok Tryz.call66
def T67 : Tab := [(5, ti5), (23, ti23), (25, ti25), (139, ti139)]
theorem T67_ok : TabOk Tryz.prog T67 := .cons tk5 <| .cons tk23 <| .cons tk25 <| .cons tk139 <| .nil mixed
def B67 : SchT := []
theorem B67_ok : regsO B67 Tryz.f67.body = true := by kernel_rfl
theorem F67_ok : FOk Tryz.prog 67 (FI.of Tryz.f67 T67 B67) := FOk.of Tryz.func67 rfl T67_ok B67_ok Tryz.call67
def T68 : Tab := [(5, ti5), (23, ti23), (25, ti25), (139, ti139)]
theorem T68_ok : TabOk Tryz.prog T68 := .cons tk5 <| .cons tk23 <| .cons tk25 <| .cons tk139 <| .nil mixed
def B68 : SchT := []
theorem B68_ok : regsO B68 Tryz.f68.body = true := by kernel_rfl
theorem F68_ok : FOk Tryz.prog 68 (FI.of Tryz.f68 T68 B68) := FOk.of Tryz.func68 rfl T68_ok B68_ok Tryz.call68
def T69 : Tab := [(3, ti3), (175, ti175)]
theorem T69_ok : TabOk Tryz.prog T69 := .cons tk3 <| .cons tk175 <| .nil mixed
def B69 : SchT := []
theorem B69_ok : regsO B69 Tryz.f69.body = true := by kernel_rfl
theorem F69_ok : FOk Tryz.prog 69 (FI.of Tryz.f69 T69 B69) := FOk.of Tryz.func69 rfl T69_ok B69_ok Tryz.call69
def T70 : Tab := [(22, ti22)]
theorem T70_ok : TabOk Tryz.prog T70 := .cons tk22 <| .nil mixed
def B70 : SchT := []
theorem B70_ok : regsO B70 Tryz.f70.body = true := by kernel_rfl
theorem F70_ok : FOk Tryz.prog 70 (FI.of Tryz.f70 T70 B70) := FOk.of Tryz.func70 rfl T70_ok B70_ok Tryz.call70
def T71 : Tab := [(5, ti5)]
theorem T71_ok : TabOk Tryz.prog T71 := .cons tk5 <| .nil mixed
def B71 : SchT := []
theorem B71_ok : regsO B71 Tryz.f71.body = true := by kernel_rfl
theorem F71_ok : FOk Tryz.prog 71 (FI.of Tryz.f71 T71 B71) := FOk.of Tryz.func71 rfl T71_ok B71_ok Tryz.call71
def T72 : Tab := [(26, ti26)]
theorem T72_ok : TabOk Tryz.prog T72 := .cons tk26 <| .nil mixed
def B72 : SchT := []
theorem B72_ok : regsO B72 Tryz.f72.body = true := by kernel_rfl
theorem F72_ok : FOk Tryz.prog 72 (FI.of Tryz.f72 T72 B72) := FOk.of Tryz.func72 rfl T72_ok B72_ok Tryz.call72
def T73 : Tab := [(2, ti2), (29, ti29)]
theorem T73_ok : TabOk Tryz.prog T73 := .cons tk2 <| .cons tk29 <| .nil mixed
def B73 : SchT := []
theorem B73_ok : regsO B73 Tryz.f73.body = true := by kernel_rfl
theorem F73_ok : FOk Tryz.prog 73 (FI.of Tryz.f73 T73 B73) := FOk.of Tryz.func73 rfl T73_ok B73_ok Tryz.call73
def T74 : Tab := [(31, ti31), (148, ti148)]
theorem T74_ok : TabOk Tryz.prog T74 := .cons tk31 <| .cons tk148 <| .nil mixed
def B74 : SchT := []
theorem B74_ok : regsO B74 Tryz.f74.body = true := by kernel_rfl
theorem F74_ok : FOk Tryz.prog 74 (FI.of Tryz.f74 T74 B74) := FOk.of Tryz.func74 rfl T74_ok B74_ok Tryz.call74
def T75 : Tab := [(32, ti32), (151, ti151)]
theorem T75_ok : TabOk Tryz.prog T75 := .cons tk32 <| .cons tk151 <| .nil mixed
def B75 : SchT := []
theorem B75_ok : regsO B75 Tryz.f75.body = true := by kernel_rfl
theorem F75_ok : FOk Tryz.prog 75 (FI.of Tryz.f75 T75 B75) := FOk.of Tryz.func75 rfl T75_ok B75_ok Tryz.call75
def T76 : Tab := [(30, ti30), (94, ti94)]
theorem T76_ok : TabOk Tryz.prog T76 := .cons tk30 <| .cons tk94 <| .nil mixed
def B76 : SchT := []
theorem B76_ok : regsO B76 Tryz.f76.body = true := by kernel_rfl
theorem F76_ok : FOk Tryz.prog 76 (FI.of Tryz.f76 T76 B76) := FOk.of Tryz.func76 rfl T76_ok B76_ok Tryz.call76
def T77 : Tab := [(34, ti34)]
theorem T77_ok : TabOk Tryz.prog T77 := .cons tk34 <| .nil mixed
def B77 : SchT := []
theorem B77_ok : regsO B77 Tryz.f77.body = true := by kernel_rfl
theorem F77_ok : FOk Tryz.prog 77 (FI.of Tryz.f77 T77 B77) := FOk.of Tryz.func77 rfl T77_ok B77_ok Tryz.call77
def T78 : Tab := [(3, ti3), (5, ti5), (26, ti26), (28, ti28)]
theorem T78_ok : TabOk Tryz.prog T78 := .cons tk3 <| .cons tk5 <| .cons tk26 <| .cons tk28 <| .nil mixed
def B78 : SchT := []
theorem B78_ok : regsO B78 Tryz.f78.body = true := by kernel_rfl
theorem F78_ok : FOk Tryz.prog 78 (FI.of Tryz.f78 T78 B78) := FOk.of Tryz.func78 rfl T78_ok B78_ok Tryz.call78
def T79 : Tab := [(2, ti2), (3, ti3), (5, ti5), (22, ti22), (29, ti29), (30, ti30), (31, ti31), (32, ti32), (34, ti34), (94, ti94), (148, ti148), (151, ti151)]
theorem T79_ok : TabOk Tryz.prog T79 := .cons tk2 <| .cons tk3 <| .cons tk5 <| .cons tk22 <| .cons tk29 <| .cons tk30 <| .cons tk31 <| .cons tk32 <| .cons tk34 <| .cons tk94 <| .cons tk148 <| .cons tk151 <| .nil mixed
def B79 : SchT := []
theorem B79_ok : regsO B79 Tryz.f79.body = true := by kernel_rfl
theorem F79_ok : FOk Tryz.prog 79 (FI.of Tryz.f79 T79 B79) := FOk.of Tryz.func79 rfl T79_ok B79_ok Tryz.call79
def T80 : Tab := [(2, ti2), (3, ti3), (22, ti22), (29, ti29), (42, ti42), (92, ti92)]
theorem T80_ok : TabOk Tryz.prog T80 := .cons tk2 <| .cons tk3 <| .cons tk22 <| .cons tk29 <| .cons tk42 <| .cons tk92 <| .nil mixed
def B80 : SchT := [(6, [(0, some [2, 5, 6, 7, 8, 9]), (2, some [0, 1, 5, 6, 7, 8, 9]), (5, some [0, 1, 2, 3, 4, 7]), (7, some [0, 1, 2, 3, 4, 5, 6]), (1, some [0, 2, 5, 6, 7, 8, 9]), (3, some [0, 1, 2, 5, 6, 7, 8, 9]), (4, some [0, 1, 2, 3, 5, 6, 7, 8, 9]), (6, none), (8, some [0, 1, 2, 3, 4, 5, 6, 7]), (9, none), (10, some [0, 1, 2, 3, 4, 5, 6, 7, 8, 9])])]
theorem B80_ok : regsO B80 Tryz.f80.body = true := by kernel_rfl
theorem F80_ok : FOk Tryz.prog 80 (FI.of Tryz.f80 T80 B80) := FOk.of Tryz.func80 rfl T80_ok B80_ok Tryz.call80
def T81 : Tab := [(2, ti2), (3, ti3), (22, ti22), (29, ti29), (30, ti30), (31, ti31), (32, ti32), (34, ti34), (94, ti94), (148, ti148), (151, ti151)]
theorem T81_ok : TabOk Tryz.prog T81 := .cons tk2 <| .cons tk3 <| .cons tk22 <| .cons tk29 <| .cons tk30 <| .cons tk31 <| .cons tk32 <| .cons tk34 <| .cons tk94 <| .cons tk148 <| .cons tk151 <| .nil mixed
def B81 : SchT := []
theorem B81_ok : regsO B81 Tryz.f81.body = true := by kernel_rfl
theorem F81_ok : FOk Tryz.prog 81 (FI.of Tryz.f81 T81 B81) := FOk.of Tryz.func81 rfl T81_ok B81_ok Tryz.call81
def T82 : Tab := [(3, ti3)]
theorem T82_ok : TabOk Tryz.prog T82 := .cons tk3 <| .nil mixed
def B82 : SchT := []
theorem B82_ok : regsO B82 Tryz.f82.body = true := by kernel_rfl
theorem F82_ok : FOk Tryz.prog 82 (FI.of Tryz.f82 T82 B82) := FOk.of Tryz.func82 rfl T82_ok B82_ok Tryz.call82
def T83 : Tab := [(3, ti3), (4, ti4), (22, ti22), (30, ti30), (94, ti94), (181, ti181), (183, ti183)]
theorem T83_ok : TabOk Tryz.prog T83 := .cons tk3 <| .cons tk4 <| .cons tk22 <| .cons tk30 <| .cons tk94 <| .cons tk181 <| .cons tk183 <| .nil mixed
def B83 : SchT := []
theorem B83_ok : regsO B83 Tryz.f83.body = true := by kernel_rfl
theorem F83_ok : FOk Tryz.prog 83 (FI.of Tryz.f83 T83 B83) := FOk.of Tryz.func83 rfl T83_ok B83_ok Tryz.call83
def T84 : Tab := [(3, ti3), (4, ti4), (22, ti22), (31, ti31), (148, ti148), (185, ti185), (187, ti187)]
theorem T84_ok : TabOk Tryz.prog T84 := .cons tk3 <| .cons tk4 <| .cons tk22 <| .cons tk31 <| .cons tk148 <| .cons tk185 <| .cons tk187 <| .nil mixed
def B84 : SchT := []
theorem B84_ok : regsO B84 Tryz.f84.body = true := by kernel_rfl
theorem F84_ok : FOk Tryz.prog 84 (FI.of Tryz.f84 T84 B84) := FOk.of Tryz.func84 rfl T84_ok B84_ok Tryz.call84
def T85 : Tab := [(4, ti4), (22, ti22), (32, ti32), (151, ti151), (189, ti189), (191, ti191)]
theorem T85_ok : TabOk Tryz.prog T85 := .cons tk4 <| .cons tk22 <| .cons tk32 <| .cons tk151 <| .cons tk189 <| .cons tk191 <| .nil mixed
def B85 : SchT := []
theorem B85_ok : regsO B85 Tryz.f85.body = true := by kernel_rfl
theorem F85_ok : FOk Tryz.prog 85 (FI.of Tryz.f85 T85 B85) := FOk.of Tryz.func85 rfl T85_ok B85_ok Tryz.call85
def T86 : Tab := [(5, ti5), (22, ti22)]
theorem T86_ok : TabOk Tryz.prog T86 := .cons tk5 <| .cons tk22 <| .nil mixed
def B86 : SchT := []
theorem B86_ok : regsO B86 Tryz.f86.body = true := by kernel_rfl
theorem F86_ok : FOk Tryz.prog 86 (FI.of Tryz.f86 T86 B86) := FOk.of Tryz.func86 rfl T86_ok B86_ok Tryz.call86
def T87 : Tab := [(3, ti3), (4, ti4), (114, ti114), (116, ti116), (197, ti197), (199, ti199)]
theorem T87_ok : TabOk Tryz.prog T87 := .cons tk3 <| .cons tk4 <| .cons tk114 <| .cons tk116 <| .cons tk197 <| .cons tk199 <| .nil mixed
def B87 : SchT := []
theorem B87_ok : regsO B87 Tryz.f87.body = true := by kernel_rfl
theorem F87_ok : FOk Tryz.prog 87 (FI.of Tryz.f87 T87 B87) := FOk.of Tryz.func87 rfl T87_ok B87_ok Tryz.call87
def T88 : Tab := [(3, ti3)]
theorem T88_ok : TabOk Tryz.prog T88 := .cons tk3 <| .nil mixed
def B88 : SchT := []
theorem B88_ok : regsO B88 Tryz.f88.body = true := by kernel_rfl
theorem F88_ok : FOk Tryz.prog 88 (FI.of Tryz.f88 T88 B88) := FOk.of Tryz.func88 rfl T88_ok B88_ok Tryz.call88
def T89 : Tab := [(5, ti5), (22, ti22), (26, ti26), (28, ti28), (42, ti42), (125, ti125)]
theorem T89_ok : TabOk Tryz.prog T89 := .cons tk5 <| .cons tk22 <| .cons tk26 <| .cons tk28 <| .cons tk42 <| .cons tk125 <| .nil mixed
def B89 : SchT := []
theorem B89_ok : regsO B89 Tryz.f89.body = true := by kernel_rfl
theorem F89_ok : FOk Tryz.prog 89 (FI.of Tryz.f89 T89 B89) := FOk.of Tryz.func89 rfl T89_ok B89_ok Tryz.call89
def T90 : Tab := [(92, ti92), (126, ti126), (132, ti132)]
theorem T90_ok : TabOk Tryz.prog T90 := .cons tk92 <| .cons tk126 <| .cons tk132 <| .nil mixed
def B90 : SchT := []
theorem B90_ok : regsO B90 Tryz.f90.body = true := by kernel_rfl
theorem F90_ok : FOk Tryz.prog 90 (FI.of Tryz.f90 T90 B90) := FOk.of Tryz.func90 rfl T90_ok B90_ok Tryz.call90
def T91 : Tab := [(22, ti22), (28, ti28), (34, ti34), (41, ti41), (42, ti42), (73, ti73), (74, ti74), (82, ti82), (92, ti92), (116, ti116), (119, ti119), (122, ti122), (125, ti125), (126, ti126), (129, ti129)]
theorem T91_ok : TabOk Tryz.prog T91 := .cons tk22 <| .cons tk28 <| .cons tk34 <| .cons tk41 <| .cons tk42 <| .cons tk73 <| .cons tk74 <| .cons tk82 <| .cons tk92 <| .cons tk116 <| .cons tk119 <| .cons tk122 <| .cons tk125 <| .cons tk126 <| .cons tk129 <| .nil mixed
def B91 : SchT := [(9, [(0, some [1, 2, 3]), (1, some [0, 2, 3, 4, 5, 6]), (2, some [0, 1, 3]), (4, some [0, 1, 2, 3]), (5, some [0, 1, 2, 3, 4]), (3, some [0, 1, 2, 4, 5, 6]), (6, none), (7, some [0, 1, 2, 3, 4, 5, 6]), (8, some [0, 1, 2, 3, 4, 5, 6, 7]), (9, none)])]
theorem B91_ok : regsO B91 Tryz.f91.body = true := by kernel_rfl
theorem F91_ok : FOk Tryz.prog 91 (FI.of Tryz.f91 T91 B91) := FOk.of Tryz.func91 rfl T91_ok B91_ok Tryz.call91
def T92 : Tab := [(4, ti4), (5, ti5), (22, ti22), (25, ti25), (28, ti28), (34, ti34), (41, ti41), (73, ti73), (82, ti82), (92, ti92), (119, ti119), (120, ti120), (122, ti122), (126, ti126), (129, ti129), (132, ti132), (162, ti162)]
theorem T92_ok : TabOk Tryz.prog T92 := .cons tk4 <| .cons tk5 <| .cons tk22 <| .cons tk25 <| .cons tk28 <| .cons tk34 <| .cons tk41 <| .cons tk73 <| .cons tk82 <| .cons tk92 <| .cons tk119 <| .cons tk120 <| .cons tk122 <| .cons tk126 <| .cons tk129 <| .cons tk132 <| .cons tk162 <| .nil mixed
def B92 : SchT := [(3, [(0, some [1, 2, 3, 4, 5, 6, 7, 8, 9, 10]), (1, some [0, 4, 5, 6, 7, 8]), (2, some [0, 1, 4, 5, 6, 7, 8]), (4, some [0, 1, 2, 3, 6, 7, 8]), (6, some [0, 1, 2, 3, 4, 5]), (3, some [0, 1, 2, 4, 5, 6, 7, 8]), (5, some [0, 1, 2, 3, 4, 6, 7, 8]), (7, none), (8, none), (9, some [0, 1, 2, 3, 4, 5, 6, 7, 8]), (10, none), (11, some [0, 1, 2, 3, 4, 5, 6, 7, 8, 9, 10]), (12, some [0, 1, 2, 3, 4, 5, 6, 7, 8, 9, 10, 11]), (13, none)]), (6, [(0, some [3, 4]), (3, some [0, 1, 2, 5, 6]), (1, some [0, 3, 4]), (4, some [0, 1, 2, 3, 5, 6]), (2, none), (5, some [0, 1, 2, 3, 4]), (6, none), (7, some [0, 1, 2, 3, 4, 5, 6]), (8, none)])]
theorem B92_ok : regsO B92 Tryz.f92.body = true := by kernel_rfl
theorem F92_ok : FOk Tryz.prog 92 (FI.of Tryz.f92 T92 B92) := FOk.of Tryz.func92 rfl T92_ok B92_ok Tryz.call92
def T93 : Tab := [(3, ti3), (4, ti4), (5, ti5), (22, ti22), (23, ti23), (170, ti170), (205, ti205)]
theorem T93_ok : TabOk Tryz.prog T93 := .cons tk3 <| .cons tk4 <| .cons tk5 <| .cons tk22 <| .cons tk23 <| .cons tk170 <| .cons tk205 <| .nil mixed
def B93 : SchT := []
theorem B93_ok : regsO B93 Tryz.f93.body = true := by kernel_rfl
theorem F93_ok : FOk Tryz.prog 93 (FI.of Tryz.f93 T93 B93) := FOk.of Tryz.func93 rfl T93_ok B93_ok Tryz.call93
def T94 : Tab := [(3, ti3), (4, ti4), (5, ti5), (23, ti23), (170, ti170), (205, ti205)]
theorem T94_ok : TabOk Tryz.prog T94 := .cons tk3 <| .cons tk4 <| .cons tk5 <| .cons tk23 <| .cons tk170 <| .cons tk205 <| .nil mixed
def B94 : SchT := [(17, [(0, some []), (1, some [0]), (2, some [0, 1]), (4, some [0, 1, 2, 3, 5]), (5, some [0, 1, 2, 3, 4]), (6, some [0, 1, 2, 3, 4, 5]), (3, some [0, 1, 2, 4, 5, 6, 7]), (7, none), (8, none), (9, some [0, 1, 2, 3, 4, 5, 6, 7, 8])])]
theorem B94_ok : regsO B94 Tryz.f94.body = true := by kernel_rfl
theorem F94_ok : FOk Tryz.prog 94 (FI.of Tryz.f94 T94 B94) := FOk.of Tryz.func94 rfl T94_ok B94_ok Tryz.call94
def T95 : Tab := [(3, ti3), (5, ti5), (23, ti23)]
theorem T95_ok : TabOk Tryz.prog T95 := .cons tk3 <| .cons tk5 <| .cons tk23 <| .nil mixed
def B95 : SchT := []
theorem B95_ok : regsO B95 Tryz.f95.body = true := by kernel_rfl
theorem F95_ok : FOk Tryz.prog 95 (FI.of Tryz.f95 T95 B95) := FOk.of Tryz.func95 rfl T95_ok B95_ok Tryz.call95
def T96 : Tab := [(3, ti3), (5, ti5), (23, ti23)]
theorem T96_ok : TabOk Tryz.prog T96 := .cons tk3 <| .cons tk5 <| .cons tk23 <| .nil mixed
def B96 : SchT := []
theorem B96_ok : regsO B96 Tryz.f96.body = true := by kernel_rfl
theorem F96_ok : FOk Tryz.prog 96 (FI.of Tryz.f96 T96 B96) := FOk.of Tryz.func96 rfl T96_ok B96_ok Tryz.call96
def T97 : Tab := [(3, ti3), (5, ti5), (23, ti23), (139, ti139)]
theorem T97_ok : TabOk Tryz.prog T97 := .cons tk3 <| .cons tk5 <| .cons tk23 <| .cons tk139 <| .nil mixed
def B97 : SchT := []
theorem B97_ok : regsO B97 Tryz.f97.body = true := by kernel_rfl
theorem F97_ok : FOk Tryz.prog 97 (FI.of Tryz.f97 T97 B97) := FOk.of Tryz.func97 rfl T97_ok B97_ok Tryz.call97
def T98 : Tab := [(3, ti3), (5, ti5), (23, ti23), (168, ti168)]
theorem T98_ok : TabOk Tryz.prog T98 := .cons tk3 <| .cons tk5 <| .cons tk23 <| .cons tk168 <| .nil mixed
def B98 : SchT := []
theorem B98_ok : regsO B98 Tryz.f98.body = true := by kernel_rfl
theorem F98_ok : FOk Tryz.prog 98 (FI.of Tryz.f98 T98 B98) := FOk.of Tryz.func98 rfl T98_ok B98_ok Tryz.call98
def T99 : Tab := [(3, ti3), (5, ti5), (23, ti23)]
theorem T99_ok : TabOk Tryz.prog T99 := .cons tk3 <| .cons tk5 <| .cons tk23 <| .nil mixed
def B99 : SchT := [(6, [(0, some [1, 4, 5, 6, 7, 8]), (1, some [0, 4, 5, 6, 7, 8]), (2, some [0, 1, 4, 5, 6, 7, 8]), (4, some [0, 1, 2, 3, 5, 6]), (5, some [0, 1, 2, 3, 4]), (6, some [0, 1, 2, 3, 4, 5]), (7, some [0, 1, 2, 3, 4, 5, 6]), (3, some [0, 1, 2, 4, 5, 6, 7, 8]), (8, none), (9, some [0, 1, 2, 3, 4, 5, 6, 7, 8])]), (11, [(0, some [1, 4, 5, 6, 7, 8]), (1, some [0, 4, 5, 6, 7, 8]), (2, some [0, 1, 4, 5, 6, 7, 8]), (4, some [0, 1, 2, 3, 5, 6]), (5, some [0, 1, 2, 3, 4]), (6, some [0, 1, 2, 3, 4, 5]), (7, some [0, 1, 2, 3, 4, 5, 6]), (3, some [0, 1, 2, 4, 5, 6, 7, 8]), (8, none), (9, some [0, 1, 2, 3, 4, 5, 6, 7, 8])])]
theorem B99_ok : regsO B99 Tryz.f99.body = true := by kernel_rfl
theorem F99_ok : FOk Tryz.prog 99 (FI.of Tryz.f99 T99 B99) := FOk.of Tryz.func99 rfl T99_ok B99_ok Tryz.call99
def T100 : Tab := [(3, ti3), (5, ti5), (23, ti23), (170, ti170), (205, ti205)]
theorem T100_ok : TabOk Tryz.prog T100 := .cons tk3 <| .cons tk5 <| .cons tk23 <| .cons tk170 <| .cons tk205 <| .nil mixed
def B100 : SchT := []
theorem B100_ok : regsO B100 Tryz.f100.body = true := by kernel_rfl
theorem F100_ok : FOk Tryz.prog 100 (FI.of Tryz.f100 T100 B100) := FOk.of Tryz.func100 rfl T100_ok B100_ok Tryz.call100
def T101 : Tab := [(22, ti22)]
theorem T101_ok : TabOk Tryz.prog T101 := .cons tk22 <| .nil mixed
def B101 : SchT := []
theorem B101_ok : regsO B101 Tryz.f101.body = true := by kernel_rfl
theorem F101_ok : FOk Tryz.prog 101 (FI.of Tryz.f101 T101 B101) := FOk.of Tryz.func101 rfl T101_ok B101_ok Tryz.call101
def T102 : Tab := [(5, ti5)]
theorem T102_ok : TabOk Tryz.prog T102 := .cons tk5 <| .nil mixed
def B102 : SchT := []
theorem B102_ok : regsO B102 Tryz.f102.body = true := by kernel_rfl
theorem F102_ok : FOk Tryz.prog 102 (FI.of Tryz.f102 T102 B102) := FOk.of Tryz.func102 rfl T102_ok B102_ok Tryz.call102
def T103 : Tab := [(26, ti26)]
theorem T103_ok : TabOk Tryz.prog T103 := .cons tk26 <| .nil mixed
def B103 : SchT := []
theorem B103_ok : regsO B103 Tryz.f103.body = true := by kernel_rfl
theorem F103_ok : FOk Tryz.prog 103 (FI.of Tryz.f103 T103 B103) := FOk.of Tryz.func103 rfl T103_ok B103_ok Tryz.call103
def T104 : Tab := [(2, ti2), (3, ti3), (5, ti5), (22, ti22), (29, ti29), (30, ti30), (31, ti31), (32, ti32), (34, ti34), (94, ti94), (148, ti148), (151, ti151), (211, ti211)]
theorem T104_ok : TabOk Tryz.prog T104 := .cons tk2 <| .cons tk3 <| .cons tk5 <| .cons tk22 <| .cons tk29 <| .cons tk30 <| .cons tk31 <| .cons tk32 <| .cons tk34 <| .cons tk94 <| .cons tk148 <| .cons tk151 <| .cons tk211 <| .nil mixed
def B104 : SchT := []
theorem B104_ok : regsO B104 Tryz.f104.body = true := by kernel_rfl
theorem F104_ok : FOk Tryz.prog 104 (FI.of Tryz.f104 T104 B104) := FOk.of Tryz.func104 rfl T104_ok B104_ok Tryz.call104
def T105 : Tab := [(2, ti2), (3, ti3), (4, ti4), (5, ti5), (22, ti22), (29, ti29), (30, ti30), (31, ti31), (32, ti32), (34, ti34), (92, ti92), (94, ti94), (148, ti148), (151, ti151)]
theorem T105_ok : TabOk Tryz.prog T105 := .cons tk2 <| .cons tk3 <| .cons tk4 <| .cons tk5 <| .cons tk22 <| .cons tk29 <| .cons tk30 <| .cons tk31 <| .cons tk32 <| .cons tk34 <| .cons tk92 <| .cons tk94 <| .cons tk148 <| .cons tk151 <| .nil mixed
def B105 : SchT := [(7, [(0, some []), (1, none), (2, some [0, 1]), (3, some [0, 1, 2]), (4, some [0, 1, 2, 3]), (5, none), (6, some [0, 1, 2, 3, 4, 5]), (7, some [0, 1, 2, 3, 4, 5, 6]), (8, some [0, 1, 2, 3, 4, 5, 6, 7]), (9, some [0, 1, 2, 3, 4, 5, 6, 7, 8]), (10, none), (11, some [0, 1, 2, 3, 4, 5, 6, 7, 8, 9, 10]), (12, some [0, 1, 2, 3, 4, 5, 6, 7, 8, 9, 10, 11]), (13, some [0, 1, 2, 3, 4, 5, 6, 7, 8, 9, 10, 11, 12]), (14, some [0, 1, 2, 3, 4, 5, 6, 7, 8, 9, 10, 11, 12, 13]), (15, none), (16, none), (17, some [0, 1, 2, 3, 4, 5, 6, 7, 8, 9, 10, 11, 12, 13, 14, 15, 16]), (18, some [0, 1, 2, 3, 4, 5, 6, 7, 8, 9, 10, 11, 12, 13, 14, 15, 16, 17]), (19, some [0, 1, 2, 3, 4, 5, 6, 7, 8, 9, 10, 11, 12, 13, 14, 15, 16, 17, 18]), (20, some [0, 1, 2, 3, 4, 5, 6, 7, 8, 9, 10, 11, 12, 13, 14, 15, 16, 17, 18, 19]), (21, some [0, 1, 2, 3, 4, 5, 6, 7, 8, 9, 10, 11, 12, 13, 14, 15, 16, 17, 18, 19, 20]), (22, some [0, 1, 2, 3, 4, 5, 6, 7, 8, 9, 10, 11, 12, 13, 14, 15, 16, 17, 18, 19, 20, 21]), (23, some [0, 1, 2, 3, 4, 5, 6, 7, 8, 9, 10, 11, 12, 13, 14, 15, 16, 17, 18, 19, 20, 21, 22, 25, 26, 30, 31]), (25, some [0, 1, 2, 3, 4, 5, 6, 7, 8, 9, 10, 11, 12, 13, 14, 15, 16, 17, 18, 19, 20, 21, 22, 23, 24, 30, 31]), (26, some [0, 1, 2, 3, 4, 5, 6, 7, 8, 9, 10, 11, 12, 13, 14, 15, 16, 17, 18, 19, 20, 21, 22, 23, 24, 25, 30, 31]), (30, some [0, 1, 2, 3, 4, 5, 6, 7, 8, 9, 10, 11, 12, 13, 14, 15, 16, 17, 18, 19, 20, 21, 22, 23, 24, 25, 26, 27, 28, 29]), (24, some [0, 1, 2, 3, 4, 5, 6, 7, 8, 9, 10, 11, 12, 13, 14, 15, 16, 17, 18, 19, 20, 21, 22, 23, 25, 26, 30, 31]), (27, some [0, 1, 2, 3, 4, 5, 6, 7, 8, 9, 10, 11, 12, 13, 14, 15, 16, 17, 18, 19, 20, 21, 22, 23, 24, 25, 26, 30, 31]), (28, some [0, 1, 2, 3, 4, 5, 6, 7, 8, 9, 10, 11, 12, 13, 14, 15, 16, 17, 18, 19, 20, 21, 22, 23, 24, 25, 26, 27, 30, 31]), (29, some [0, 1, 2, 3, 4, 5, 6, 7, 8, 9, 10, 11, 12, 13, 14, 15, 16, 17, 18, 19, 20, 21, 22, 23, 24, 25, 26, 27, 28, 30, 31]), (31, none), (32, some [0, 1, 2, 3, 4, 5, 6, 7, 8, 9, 10, 11, 12, 13, 14, 15, 16, 17, 18, 19, 20, 21, 22, 23, 24, 25, 26, 27, 28, 29, 30, 31]), (33, some [0, 1, 2, 3, 4, 5, 6, 7, 8, 9, 10, 11, 12, 13, 14, 15, 16, 17, 18, 19, 20, 21, 22, 23, 24, 25, 26, 27, 28, 29, 30, 31, 32]), (34, some [0, 1, 2, 3, 4, 5, 6, 7, 8, 9, 10, 11, 12, 13, 14, 15, 16, 17, 18, 19, 20, 21, 22, 23, 24, 25, 26, 27, 28, 29, 30, 31, 32, 33])]), (14, [(0, some []), (1, none), (2, some [0, 1]), (3, some [0, 1, 2]), (4, some [0, 1, 2, 3, 6, 7]), (6, some [0, 1, 2, 3, 4, 5]), (5, some [0, 1, 2, 3, 4, 6, 7]), (7, none), (8, some [0, 1, 2, 3, 4, 5, 6, 7]), (9, some [0, 1, 2, 3, 4, 5, 6, 7, 8]), (10, some [0, 1, 2, 3, 4, 5, 6, 7, 8, 9]), (11, some [0, 1, 2, 3, 4, 5, 6, 7, 8, 9, 10]), (12, none), (13, some [0, 1, 2, 3, 4, 5, 6, 7, 8, 9, 10, 11, 12]), (14, some [0, 1, 2, 3, 4, 5, 6, 7, 8, 9, 10, 11, 12, 13]), (15, some [0, 1, 2, 3, 4, 5, 6, 7, 8, 9, 10, 11, 12, 13, 14]), (16, some [0, 1, 2, 3, 4, 5, 6, 7, 8, 9, 10, 11, 12, 13, 14, 15]), (17, none), (18, some [0, 1, 2, 3, 4, 5, 6, 7, 8, 9, 10, 11, 12, 13, 14, 15, 16, 17]), (19, some [0, 1, 2, 3, 4, 5, 6, 7, 8, 9, 10, 11, 12, 13, 14, 15, 16, 17, 18]), (20, some [0, 1, 2, 3, 4, 5, 6, 7, 8, 9, 10, 11, 12, 13, 14, 15, 16, 17, 18, 19]), (21, some [0, 1, 2, 3, 4, 5, 6, 7, 8, 9, 10, 11, 12, 13, 14, 15, 16, 17, 18, 19, 20]), (22, none), (23, some [0, 1, 2, 3, 4, 5, 6, 7, 8, 9, 10, 11, 12, 13, 14, 15, 16, 17, 18, 19, 20, 21, 22]), (24, some [0, 1, 2, 3, 4, 5, 6, 7, 8, 9, 10, 11, 12, 13, 14, 15, 16, 17, 18, 19, 20, 21, 22, 23]), (25, some [0, 1, 2, 3, 4, 5, 6, 7, 8, 9, 10, 11, 12, 13, 14, 15, 16, 17, 18, 19, 20, 21, 22, 23, 24]), (26, some [0, 1, 2, 3, 4, 5, 6, 7, 8, 9, 10, 11, 12, 13, 14, 15, 16, 17, 18, 19, 20, 21, 22, 23, 24, 25]), (27, some [0, 1, 2, 3, 4, 5, 6, 7, 8, 9, 10, 11, 12, 13, 14, 15, 16, 17, 18, 19, 20, 21, 22, 23, 24, 25, 26]), (28, some [0, 1, 2, 3, 4, 5, 6, 7, 8, 9, 10, 11, 12, 13, 14, 15, 16, 17, 18, 19, 20, 21, 22, 23, 24, 25, 26, 27]), (29, some [0, 1, 2, 3, 4, 5, 6, 7, 8, 9, 10, 11, 12, 13, 14, 15, 16, 17, 18, 19, 20, 21, 22, 23, 24, 25, 26, 27, 28, 31, 32, 36, 37]), (31, some [0, 1, 2, 3, 4, 5, 6, 7, 8, 9, 10, 11, 12, 13, 14, 15, 16, 17, 18, 19, 20, 21, 22, 23, 24, 25, 26, 27, 28, 29, 30, 36, 37]), (32, some [0, 1, 2, 3, 4, 5, 6, 7, 8, 9, 10, 11, 12, 13, 14, 15, 16, 17, 18, 19, 20, 21, 22, 23, 24, 25, 26, 27, 28, 29, 30, 31, 36, 37]), (36, some [0, 1, 2, 3, 4, 5, 6, 7, 8, 9, 10, 11, 12, 13, 14, 15, 16, 17, 18, 19, 20, 21, 22, 23, 24, 25, 26, 27, 28, 29, 30, 31, 32, 33, 34, 35]), (30, some [0, 1, 2, 3, 4, 5, 6, 7, 8, 9, 10, 11, 12, 13, 14, 15, 16, 17, 18, 19, 20, 21, 22, 23, 24, 25, 26, 27, 28, 29, 31, 32, 36, 37]), (33, some [0, 1, 2, 3, 4, 5, 6, 7, 8, 9, 10, 11, 12, 13, 14, 15, 16, 17, 18, 19, 20, 21, 22, 23, 24, 25, 26, 27, 28, 29, 30, 31, 32, 36, 37]), (34, some [0, 1, 2, 3, 4, 5, 6, 7, 8, 9, 10, 11, 12, 13, 14, 15, 16, 17, 18, 19, 20, 21, 22, 23, 24, 25, 26, 27, 28, 29, 30, 31, 32, 33, 36, 37]), (35, some [0, 1, 2, 3, 4, 5, 6, 7, 8, 9, 10, 11, 12, 13, 14, 15, 16, 17, 18, 19, 20, 21, 22, 23, 24, 25, 26, 27, 28, 29, 30, 31, 32, 33, 34, 36, 37]), (37, none), (38, some [0, 1, 2, 3, 4, 5, 6, 7, 8, 9, 10, 11, 12, 13, 14, 15, 16, 17, 18, 19, 20, 21, 22, 23, 24, 25, 26, 27, 28, 29, 30, 31, 32, 33, 34, 35, 36, 37]), (39, some [0, 1, 2, 3, 4, 5, 6, 7, 8, 9, 10, 11, 12, 13, 14, 15, 16, 17, 18, 19, 20, 21, 22, 23, 24, 25, 26, 27, 28, 29, 30, 31, 32, 33, 34, 35, 36, 37, 38]), (40, some [0, 1, 2, 3, 4, 5, 6, 7, 8, 9, 10, 11, 12, 13, 14, 15, 16, 17, 18, 19, 20, 21, 22, 23, 24, 25, 26, 27, 28, 29, 30, 31, 32, 33, 34, 35, 36, 37, 38, 39])]), (21, [(0, some []), (1, none), (2, some [0, 1]), (3, some [0, 1, 2]), (4, some [0, 1, 2, 3]), (5, none), (6, some [0, 1, 2, 3, 4, 5]), (7, some [0, 1, 2, 3, 4, 5, 6]), (8, some [0, 1, 2, 3, 4, 5, 6, 7]), (9, some [0, 1, 2, 3, 4, 5, 6, 7, 8]), (10, none), (11, some [0, 1, 2, 3, 4, 5, 6, 7, 8, 9, 10]), (12, some [0, 1, 2, 3, 4, 5, 6, 7, 8, 9, 10, 11]), (13, some [0, 1, 2, 3, 4, 5, 6, 7, 8, 9, 10, 11, 12]), (14, some [0, 1, 2, 3, 4, 5, 6, 7, 8, 9, 10, 11, 12, 13]), (15, some [0, 1, 2, 3, 4, 5, 6, 7, 8, 9, 10, 11, 12, 13, 14]), (16, some [0, 1, 2, 3, 4, 5, 6, 7, 8, 9, 10, 11, 12, 13, 14, 15]), (17, some [0, 1, 2, 3, 4, 5, 6, 7, 8, 9, 10, 11, 12, 13, 14, 15, 16, 19, 20, 24, 25]), (19, some [0, 1, 2, 3, 4, 5, 6, 7, 8, 9, 10, 11, 12, 13, 14, 15, 16, 17, 18, 24, 25]), (20, some [0, 1, 2, 3, 4, 5, 6, 7, 8, 9, 10, 11, 12, 13, 14, 15, 16, 17, 18, 19, 24, 25]), (24, some [0, 1, 2, 3, 4, 5, 6, 7, 8, 9, 10, 11, 12, 13, 14, 15, 16, 17, 18, 19, 20, 21, 22, 23]), (18, some [0, 1, 2, 3, 4, 5, 6, 7, 8, 9, 10, 11, 12, 13, 14, 15, 16, 17, 19, 20, 24, 25]), (21, some [0, 1, 2, 3, 4, 5, 6, 7, 8, 9, 10, 11, 12, 13, 14, 15, 16, 17, 18, 19, 20, 24, 25]), (22, some [0, 1, 2, 3, 4, 5, 6, 7, 8, 9, 10, 11, 12, 13, 14, 15, 16, 17, 18, 19, 20, 21, 24, 25]), (23, some [0, 1, 2, 3, 4, 5, 6, 7, 8, 9, 10, 11, 12, 13, 14, 15, 16, 17, 18, 19, 20, 21, 22, 24, 25]), (25, none), (26, some [0, 1, 2, 3, 4, 5, 6, 7, 8, 9, 10, 11, 12, 13, 14, 15, 16, 17, 18, 19, 20, 21, 22, 23, 24, 25]), (27, some [0, 1, 2, 3, 4, 5, 6, 7, 8, 9, 10, 11, 12, 13, 14, 15, 16, 17, 18, 19, 20, 21, 22, 23, 24, 25, 26]), (28, some [0, 1, 2, 3, 4, 5, 6, 7, 8, 9, 10, 11, 12, 13, 14, 15, 16, 17, 18, 19, 20, 21, 22, 23, 24, 25, 26, 27])])]
theorem B105_ok : regsO B105 Tryz.f105.body = true := by kernel_rfl
theorem F105_ok : FOk Tryz.prog 105 (FI.of Tryz.f105 T105 B105) := FOk.of Tryz.func105 rfl T105_ok B105_ok Tryz.call105
def T106 : Tab := [(3, ti3), (30, ti30), (94, ti94), (181, ti181)]
theorem T106_ok : TabOk Tryz.prog T106 := .cons tk3 <| .cons tk30 <| .cons tk94 <| .cons tk181 <| .nil mixed
def B106 : SchT := []
theorem B106_ok : regsO B106 Tryz.f106.body = true := by kernel_rfl
theorem F106_ok : FOk Tryz.prog 106 (FI.of Tryz.f106 T106 B106) := FOk.of Tryz.func106 rfl T106_ok B106_ok Tryz.call106
def T107 : Tab := [(4, ti4), (5, ti5), (22, ti22), (92, ti92), (94, ti94)]
theorem T107_ok : TabOk Tryz.prog T107 := .cons tk4 <| .cons tk5 <| .cons tk22 <| .cons tk92 <| .cons tk94 <| .nil mixed
def B107 : SchT := []
theorem B107_ok : regsO B107 Tryz.f107.body = true := by kernel_rfl
theorem F107_ok : FOk Tryz.prog 107 (FI.of Tryz.f107 T107 B107) := FOk.of Tryz.func107 rfl T107_ok B107_ok Tryz.call107
def T108 : Tab := [(2, ti2), (3, ti3), (29, ti29), (42, ti42), (92, ti92)]
theorem T108_ok : TabOk Tryz.prog T108 := .cons tk2 <| .cons tk3 <| .cons tk29 <| .cons tk42 <| .cons tk92 <| .nil mixed
def B108 : SchT := []
theorem B108_ok : regsO B108 Tryz.f108.body = true := by kernel_rfl
theorem F108_ok : FOk Tryz.prog 108 (FI.of Tryz.f108 T108 B108) := FOk.of Tryz.func108 rfl T108_ok B108_ok Tryz.call108
def T109 : Tab := [(3, ti3), (22, ti22), (30, ti30), (94, ti94)]
theorem T109_ok : TabOk Tryz.prog T109 := .cons tk3 <| .cons tk22 <| .cons tk30 <| .cons tk94 <| .nil mixed
def B109 : SchT := []
theorem B109_ok : regsO B109 Tryz.f109.body = true := by kernel_rfl
theorem F109_ok : FOk Tryz.prog 109 (FI.of Tryz.f109 T109 B109) := FOk.of Tryz.func109 rfl T109_ok B109_ok Tryz.call109
def T110 : Tab := [(5, ti5), (22, ti22), (94, ti94)]
theorem T110_ok : TabOk Tryz.prog T110 := .cons tk5 <| .cons tk22 <| .cons tk94 <| .nil mixed
def B110 : SchT := []
theorem B110_ok : regsO B110 Tryz.f110.body = true := by kernel_rfl
theorem F110_ok : FOk Tryz.prog 110 (FI.of Tryz.f110 T110 B110) := FOk.of Tryz.func110 rfl T110_ok B110_ok Tryz.call110
def T111 : Tab := [(3, ti3), (31, ti31), (148, ti148), (185, ti185)]
theorem T111_ok : TabOk Tryz.prog T111 := .cons tk3 <| .cons tk31 <| .cons tk148 <| .cons tk185 <| .nil mixed
def B111 : SchT := []
theorem B111_ok : regsO B111 Tryz.f111.body = true := by kernel_rfl
theorem F111_ok : FOk Tryz.prog 111 (FI.of Tryz.f111 T111 B111) := FOk.of Tryz.func111 rfl T111_ok B111_ok Tryz.call111
def T112 : Tab := [(3, ti3), (4, ti4), (5, ti5), (22, ti22), (148, ti148)]
theorem T112_ok : TabOk Tryz.prog T112 := .cons tk3 <| .cons tk4 <| .cons tk5 <| .cons tk22 <| .cons tk148 <| .nil mixed
def B112 : SchT := []
theorem B112_ok : regsO B112 Tryz.f112.body = true := by kernel_rfl
theorem F112_ok : FOk Tryz.prog 112 (FI.of Tryz.f112 T112 B112) := FOk.of Tryz.func112 rfl T112_ok B112_ok Tryz.call112
def T113 : Tab := [(3, ti3), (22, ti22), (31, ti31), (148, ti148)]
theorem T113_ok : TabOk Tryz.prog T113 := .cons tk3 <| .cons tk22 <| .cons tk31 <| .cons tk148 <| .nil mixed
def B113 : SchT := []
theorem B113_ok : regsO B113 Tryz.f113.body = true := by kernel_rfl
theorem F113_ok : FOk Tryz.prog 113 (FI.of Tryz.f113 T113 B113) := FOk.of Tryz.func113 rfl T113_ok B113_ok Tryz.call113
def T114 : Tab := [(22, ti22), (148, ti148)]
theorem T114_ok : TabOk Tryz.prog T114 := .cons tk22 <| .cons tk148 <| .nil mixed
def B114 : SchT := []
theorem B114_ok : regsO B114 Tryz.f114.body = true := by kernel_rfl
theorem F114_ok : FOk Tryz.prog 114 (FI.of Tryz.f114 T114 B114) := FOk.of Tryz.func114 rfl T114_ok B114_ok Tryz.call114
def T115 : Tab := [(3, ti3), (32, ti32), (151, ti151), (189, ti189)]
theorem T115_ok : TabOk Tryz.prog T115 := .cons tk3 <| .cons tk32 <| .cons tk151 <| .cons tk189 <| .nil mixed
def B115 : SchT := []
theorem B115_ok : regsO B115 Tryz.f115.body = true := by kernel_rfl
theorem F115_ok : FOk Tryz.prog 115 (FI.of Tryz.f115 T115 B115) := FOk.of Tryz.func115 rfl T115_ok B115_ok Tryz.call115
def T116 : Tab := [(5, ti5), (22, ti22), (151, ti151)]
theorem T116_ok : TabOk Tryz.prog T116 := .cons tk5 <| .cons tk22 <| .cons tk151 <| .nil mixed
def B116 : SchT := []
theorem B116_ok : regsO B116 Tryz.f116.body = true := by kernel_rfl
theorem F116_ok : FOk Tryz.prog 116 (FI.of Tryz.f116 T116 B116) := FOk.of Tryz.func116 rfl T116_ok B116_ok Tryz.call116
def T117 : Tab := [(3, ti3), (22, ti22), (32, ti32), (151, ti151)]
theorem T117_ok : TabOk Tryz.prog T117 := .cons tk3 <| .cons tk22 <| .cons tk32 <| .cons tk151 <| .nil mixed
def B117 : SchT := []
theorem B117_ok : regsO B117 Tryz.f117.body = true := by kernel_rfl
theorem F117_ok : FOk Tryz.prog 117 (FI.of Tryz.f117 T117 B117) := FOk.of Tryz.func117 rfl T117_ok B117_ok Tryz.call117
def T118 : Tab := [(5, ti5), (22, ti22), (151, ti151)]
theorem T118_ok : TabOk Tryz.prog T118 := .cons tk5 <| .cons tk22 <| .cons tk151 <| .nil mixed
def B118 : SchT := []
theorem B118_ok : regsO B118 Tryz.f118.body = true := by kernel_rfl
theorem F118_ok : FOk Tryz.prog 118 (FI.of Tryz.f118 T118 B118) := FOk.of Tryz.func118 rfl T118_ok B118_ok Tryz.call118
def T119 : Tab := [(3, ti3), (114, ti114), (197, ti197), (199, ti199)]
theorem T119_ok : TabOk Tryz.prog T119 := .cons tk3 <| .cons tk114 <| .cons tk197 <| .cons tk199 <| .nil mixed
def B119 : SchT := []
theorem B119_ok : regsO B119 Tryz.f119.body = true := by kernel_rfl
theorem F119_ok : FOk Tryz.prog 119 (FI.of Tryz.f119 T119 B119) := FOk.of Tryz.func119 rfl T119_ok B119_ok Tryz.call119
def T120 : Tab := [(4, ti4), (116, ti116), (197, ti197)]
theorem T120_ok : TabOk Tryz.prog T120 := .cons tk4 <| .cons tk116 <| .cons tk197 <| .nil mixed
def B120 : SchT := []
theorem B120_ok : regsO B120 Tryz.f120.body = true := by kernel_rfl
theorem F120_ok : FOk Tryz.prog 120 (FI.of Tryz.f120 T120 B120) := FOk.of Tryz.func120 rfl T120_ok B120_ok Tryz.call120
def T121 : Tab := [(3, ti3), (4, ti4), (116, ti116), (193, ti193), (194, ti194), (195, ti195), (197, ti197), (222, ti222), (225, ti225), (226, ti226), (247, ti247)]
theorem T121_ok : TabOk Tryz.prog T121 := .cons tk3 <| .cons tk4 <| .cons tk116 <| .cons tk193 <| .cons tk194 <| .cons tk195 <| .cons tk197 <| .cons tk222 <| .cons tk225 <| .cons tk226 <| .cons tk247 <| .nil mixed
def B121 : SchT := [(8, [(0, some [2, 3]), (2, some [0, 1]), (1, some [0, 2, 3]), (3, none), (4, none), (5, some [0, 1, 2, 3, 4]), (6, some [0, 1, 2, 3, 4, 5]), (7, some [0, 1, 2, 3, 4, 5, 6]), (8, some [0, 1, 2, 3, 4, 5, 6, 7]), (9, some [0, 1, 2, 3, 4, 5, 6, 7, 8]), (10, some [0, 1, 2, 3, 4, 5, 6, 7, 8, 9, 12, 13, 14, 15, 16, 17, 18]), (12, some [0, 1, 2, 3, 4, 5, 6, 7, 8, 9, 10, 11, 14, 15]), (14, some [0, 1, 2, 3, 4, 5, 6, 7, 8, 9, 10, 11, 12, 13]), (15, some [0, 1, 2, 3, 4, 5, 6, 7, 8, 9, 10, 11, 12, 13, 14]), (11, some [0, 1, 2, 3, 4, 5, 6, 7, 8, 9, 10, 12, 13, 14, 15, 16, 17, 18]), (13, none), (16, some [0, 1, 2, 3, 4, 5, 6, 7, 8, 9, 10, 11, 12, 13, 14, 15]), (17, some [0, 1, 2, 3, 4, 5, 6, 7, 8, 9, 10, 11, 12, 13, 14, 15, 16]), (18, none), (19, some [0, 1, 2, 3, 4, 5, 6, 7, 8, 9, 10, 11, 12, 13, 14, 15, 16, 17, 18]), (20, some [0, 1, 2, 3, 4, 5, 6, 7, 8, 9, 10, 11, 12, 13, 14, 15, 16, 17, 18, 19]), (21, some [0, 1, 2, 3, 4, 5, 6, 7, 8, 9, 10, 11, 12, 13, 14, 15, 16, 17, 18, 19, 20]), (22, some [0, 1, 2, 3, 4, 5, 6, 7, 8, 9, 10, 11, 12, 13, 14, 15, 16, 17, 18, 19, 20, 21]), (23, some [0, 1, 2, 3, 4, 5, 6, 7, 8, 9, 10, 11, 12, 13, 14, 15, 16, 17, 18, 19, 20, 21, 22, 25, 26]), (25, some [0, 1, 2, 3, 4, 5, 6, 7, 8, 9, 10, 11, 12, 13, 14, 15, 16, 17, 18, 19, 20, 21, 22, 23, 24]), (24, some [0, 1, 2, 3, 4, 5, 6, 7, 8, 9, 10, 11, 12, 13, 14, 15, 16, 17, 18, 19, 20, 21, 22, 23, 25, 26]), (26, none), (27, none), (28, some [0, 1, 2, 3, 4, 5, 6, 7, 8, 9, 10, 11, 12, 13, 14, 15, 16, 17, 18, 19, 20, 21, 22, 23, 24, 25, 26, 27]), (29, some [0, 1, 2, 3, 4, 5, 6, 7, 8, 9, 10, 11, 12, 13, 14, 15, 16, 17, 18, 19, 20, 21, 22, 23, 24, 25, 26, 27, 28])])]
theorem B121_ok : regsO B121 Tryz.f121.body = true := by kernel_rfl
theorem F121_ok : FOk Tryz.prog 121 (FI.of Tryz.f121 T121 B121) := FOk.of Tryz.func121 rfl T121_ok B121_ok Tryz.call121
def T122 : Tab := [(22, ti22), (28, ti28)]
theorem T122_ok : TabOk Tryz.prog T122 := .cons tk22 <| .cons tk28 <| .nil mixed
def B122 : SchT := []
theorem B122_ok : regsO B122 Tryz.f122.body = true := by kernel_rfl
theorem F122_ok : FOk Tryz.prog 122 (FI.of Tryz.f122 T122 B122) := FOk.of Tryz.func122 rfl T122_ok B122_ok Tryz.call122
def T123 : Tab := [(2, ti2), (3, ti3), (4, ti4), (5, ti5), (22, ti22), (29, ti29), (30, ti30), (34, ti34), (42, ti42), (73, ti73), (92, ti92), (94, ti94), (116, ti116), (228, ti228)]
theorem T123_ok : TabOk Tryz.prog T123 := .cons tk2 <| .cons tk3 <| .cons tk4 <| .cons tk5 <| .cons tk22 <| .cons tk29 <| .cons tk30 <| .cons tk34 <| .cons tk42 <| .cons tk73 <| .cons tk92 <| .cons tk94 <| .cons tk116 <| .cons tk228 <| .nil mixed
def B123 : SchT := [(11, [(1, some [0, 3]), (0, some [1, 2]), (2, some [0, 1, 3]), (3, none), (4, none), (5, some [0, 1, 2, 3, 4])]), (15, [(0, some [2, 3, 4, 5, 6]), (2, some [0, 1, 4, 5, 6, 7, 8]), (4, some [0, 1, 2, 3, 7]), (1, some [0, 2, 3, 4, 5, 6]), (7, some [0, 1, 2, 3, 4, 5, 6]), (3, some [0, 1, 2, 4, 5, 6, 7, 8]), (5, none), (6, none), (8, none), (9, some [0, 1, 2, 3, 4, 5, 6, 7, 8]), (10, none), (11, some [0, 1, 2, 3, 4, 5, 6, 7, 8, 9, 10]), (12, none)]), (20, [(0, some [1]), (1, some [0, 2]), (2, none), (3, none), (4, some [0, 1, 2, 3])])]
theorem B123_ok : regsO B123 Tryz.f123.body = true := by kernel_rfl
theorem F123_ok : FOk Tryz.prog 123 (FI.of Tryz.f123 T123 B123) := FOk.of Tryz.func123 rfl T123_ok B123_ok Tryz.call123
def T124 : Tab := [(5, ti5), (22, ti22), (23, ti23)]
theorem T124_ok : TabOk Tryz.prog T124 := .cons tk5 <| .cons tk22 <| .cons tk23 <| .nil mixed
def B124 : SchT := []
theorem B124_ok : regsO B124 Tryz.f124.body = true := by kernel_rfl
theorem F124_ok : FOk Tryz.prog 124 (FI.of Tryz.f124 T124 B124) := FOk.of Tryz.func124 rfl T124_ok B124_ok Tryz.call124
def T125 : Tab := [(5, ti5), (22, ti22), (23, ti23)]
theorem T125_ok : TabOk Tryz.prog T125 := .cons tk5 <| .cons tk22 <| .cons tk23 <| .nil mixed
def B125 : SchT := []
theorem B125_ok : regsO B125 Tryz.f125.body = true := by kernel_rfl
theorem F125_ok : FOk Tryz.prog 125 (FI.of Tryz.f125 T125 B125) := FOk.of Tryz.func125 rfl T125_ok B125_ok Tryz.call125
def T126 : Tab := [(5, ti5), (22, ti22), (205, ti205)]
theorem T126_ok : TabOk Tryz.prog T126 := .cons tk5 <| .cons tk22 <| .cons tk205 <| .nil mixed
def B126 : SchT := []
theorem B126_ok : regsO B126 Tryz.f126.body = true := by kernel_rfl
theorem F126_ok : FOk Tryz.prog 126 (FI.of Tryz.f126 T126 B126) := FOk.of Tryz.func126 rfl T126_ok B126_ok Tryz.call126
def T127 : Tab := [(3, ti3), (5, ti5), (23, ti23)]
theorem T127_ok : TabOk Tryz.prog T127 := .cons tk3 <| .cons tk5 <| .cons tk23 <| .nil mixed
def B127 : SchT := []
theorem B127_ok : regsO B127 Tryz.f127.body = true := by kernel_rfl
theorem F127_ok : FOk Tryz.prog 127 (FI.of Tryz.f127 T127 B127) := FOk.of Tryz.func127 rfl T127_ok B127_ok Tryz.call127
def T128 : Tab := [(3, ti3), (4, ti4), (5, ti5), (23, ti23), (232, ti232)]
theorem T128_ok : TabOk Tryz.prog T128 := .cons tk3 <| .cons tk4 <| .cons tk5 <| .cons tk23 <| .cons tk232 <| .nil mixed
def B128 : SchT := [(17, [(0, some []), (1, some [0]), (2, some [0, 1]), (3, some [0, 1, 2, 4, 5, 8, 9, 10, 11]), (4, some [0, 1, 2, 3, 8, 9, 10, 11]), (5, some [0, 1, 2, 3, 4, 8, 9, 10, 11]), (6, some [0, 1, 2, 3, 4, 5, 8, 9, 10, 11]), (8, some [0, 1, 2, 3, 4, 5, 6, 7, 9]), (9, some [0, 1, 2, 3, 4, 5, 6, 7, 8]), (10, some [0, 1, 2, 3, 4, 5, 6, 7, 8, 9]), (7, some [0, 1, 2, 3, 4, 5, 6, 8, 9, 10, 11]), (11, none), (12, none), (13, some [0, 1, 2, 3, 4, 5, 6, 7, 8, 9, 10, 11, 12]), (14, some [0, 1, 2, 3, 4, 5, 6, 7, 8, 9, 10, 11, 12, 13])])]
theorem B128_ok : regsO B128 Tryz.f128.body = true := by kernel_rfl
theorem F128_ok : FOk Tryz.prog 128 (FI.of Tryz.f128 T128 B128) := FOk.of Tryz.func128 rfl T128_ok B128_ok Tryz.call128
def T129 : Tab := [(22, ti22), (26, ti26), (168, ti168)]
theorem T129_ok : TabOk Tryz.prog T129 := .cons tk22 <| .cons tk26 <| .cons tk168 <| .nil mixed
def B129 : SchT := []
theorem B129_ok : regsO B129 Tryz.f129.body = true := by kernel_rfl
theorem F129_ok : FOk Tryz.prog 129 (FI.of Tryz.f129 T129 B129) := FOk.of Tryz.func129 rfl T129_ok B129_ok Tryz.call129
def T130 : Tab := [(3, ti3), (4, ti4), (5, ti5), (22, ti22), (23, ti23), (170, ti170), (205, ti205), (242, ti242), (243, ti243)]
theorem T130_ok : TabOk Tryz.prog T130 := .cons tk3 <| .cons tk4 <| .cons tk5 <| .cons tk22 <| .cons tk23 <| .cons tk170 <| .cons tk205 <| .cons tk242 <| .cons tk243 <| .nil mixed
def B130 : SchT := [(9, [(1, some [0, 2, 4, 5]), (2, some [0, 1, 4, 5]), (3, some [0, 1, 2, 4, 5]), (0, some [1, 2, 3, 4, 5, 6]), (4, none), (5, some [0, 1, 2, 3, 4]), (6, some [0, 1, 2, 3, 4, 5]), (7, some [0, 1, 2, 3, 4, 5, 6]), (8, some [0, 1, 2, 3, 4, 5, 6, 7]), (9, none), (10, some [0, 1, 2, 3, 4, 5, 6, 7, 8, 9])])]
theorem B130_ok : regsO B130 Tryz.f130.body = true := by kernel_rfl
theorem F130_ok : FOk Tryz.prog 130 (FI.of Tryz.f130 T130 B130) := FOk.of Tryz.func130 rfl T130_ok B130_ok Tryz.call130
def T131 : Tab := [(3, ti3), (5, ti5), (23, ti23), (170, ti170), (205, ti205), (245, ti245)]
theorem T131_ok : TabOk Tryz.prog T131 := .cons tk3 <| .cons tk5 <| .cons tk23 <| .cons tk170 <| .cons tk205 <| .cons tk245 <| .nil mixed
def B131 : SchT := []
theorem B131_ok : regsO B131 Tryz.f131.body = true := by kernel_rfl
theorem F131_ok : FOk Tryz.prog 131 (FI.of Tryz.f131 T131 B131) := FOk.of Tryz.func131 rfl T131_ok B131_ok Tryz.call131
def T132 : Tab := [(5, ti5), (22, ti22), (92, ti92), (94, ti94)]
theorem T132_ok : TabOk Tryz.prog T132 := .cons tk5 <| .cons tk22 <| .cons tk92 <| .cons tk94 <| .nil mixed
def B132 : SchT := []
theorem B132_ok : regsO B132 Tryz.f132.body = true := by kernel_rfl
theorem F132_ok : FOk Tryz.prog 132 (FI.of Tryz.f132 T132 B132) := FOk.of Tryz.func132 rfl T132_ok B132_ok Tryz.call132
def T133 : Tab := [(2, ti2), (3, ti3), (22, ti22), (29, ti29), (42, ti42), (92, ti92)]
theorem T133_ok : TabOk Tryz.prog T133 := .cons tk2 <| .cons tk3 <| .cons tk22 <| .cons tk29 <| .cons tk42 <| .cons tk92 <| .nil mixed
def B133 : SchT := []
theorem B133_ok : regsO B133 Tryz.f133.body = true := by kernel_rfl
theorem F133_ok : FOk Tryz.prog 133 (FI.of Tryz.f133 T133 B133) := FOk.of Tryz.func133 rfl T133_ok B133_ok Tryz.call133
def T134 : Tab := [(2, ti2), (3, ti3), (29, ti29)]
theorem T134_ok : TabOk Tryz.prog T134 := .cons tk2 <| .cons tk3 <| .cons tk29 <| .nil mixed
def B134 : SchT := [(6, [(0, some [1, 4, 5, 6, 7]), (1, some [0, 4, 5, 6, 7]), (2, some [0, 1, 4, 5, 6, 7]), (4, some [0, 1, 2, 3, 5]), (5, some [0, 1, 2, 3, 4]), (6, some [0, 1, 2, 3, 4, 5]), (3, some [0, 1, 2, 4, 5, 6, 7]), (7, none), (8, some [0, 1, 2, 3, 4, 5, 6, 7])])]
theorem B134_ok : regsO B134 Tryz.f134.body = true := by kernel_rfl
theorem F134_ok : FOk Tryz.prog 134 (FI.of Tryz.f134 T134 B134) := FOk.of Tryz.func134 rfl T134_ok B134_ok Tryz.call134
def T135 : Tab := [(3, ti3), (4, ti4), (30, ti30), (94, ti94)]
theorem T135_ok : TabOk Tryz.prog T135 := .cons tk3 <| .cons tk4 <| .cons tk30 <| .cons tk94 <| .nil mixed
def B135 : SchT := []
theorem B135_ok : regsO B135 Tryz.f135.body = true := by kernel_rfl
theorem F135_ok : FOk Tryz.prog 135 (FI.of Tryz.f135 T135 B135) := FOk.of Tryz.func135 rfl T135_ok B135_ok Tryz.call135
def T136 : Tab := [(3, ti3), (31, ti31), (148, ti148)]
theorem T136_ok : TabOk Tryz.prog T136 := .cons tk3 <| .cons tk31 <| .cons tk148 <| .nil mixed
def B136 : SchT := [(6, [(0, some [1, 4, 5, 6, 7]), (1, some [0, 4, 5, 6, 7]), (2, some [0, 1, 4, 5, 6, 7]), (4, some [0, 1, 2, 3, 5]), (5, some [0, 1, 2, 3, 4]), (6, some [0, 1, 2, 3, 4, 5]), (3, some [0, 1, 2, 4, 5, 6, 7]), (7, none), (8, some [0, 1, 2, 3, 4, 5, 6, 7])])]
theorem B136_ok : regsO B136 Tryz.f136.body = true := by kernel_rfl
theorem F136_ok : FOk Tryz.prog 136 (FI.of Tryz.f136 T136 B136) := FOk.of Tryz.func136 rfl T136_ok B136_ok Tryz.call136
def T137 : Tab := [(3, ti3), (32, ti32), (151, ti151)]
theorem T137_ok : TabOk Tryz.prog T137 := .cons tk3 <| .cons tk32 <| .cons tk151 <| .nil mixed
def B137 : SchT := [(6, [(0, some [1, 4, 5, 6, 7]), (1, some [0, 4, 5, 6, 7]), (2, some [0, 1, 4, 5, 6, 7]), (4, some [0, 1, 2, 3, 5]), (5, some [0, 1, 2, 3, 4]), (6, some [0, 1, 2, 3, 4, 5]), (3, some [0, 1, 2, 4, 5, 6, 7]), (7, none), (8, some [0, 1, 2, 3, 4, 5, 6, 7])])]
theorem B137_ok : regsO B137 Tryz.f137.body = true := by kernel_rfl
theorem F137_ok : FOk Tryz.prog 137 (FI.of Tryz.f137 T137 B137) := FOk.of Tryz.func137 rfl T137_ok B137_ok Tryz.call137
def T138 : Tab := [(2, ti2), (3, ti3), (29, ti29), (42, ti42), (92, ti92)]
theorem T138_ok : TabOk Tryz.prog T138 := .cons tk2 <| .cons tk3 <| .cons tk29 <| .cons tk42 <| .cons tk92 <| .nil mixed
def B138 : SchT := []
theorem B138_ok : regsO B138 Tryz.f138.body = true := by kernel_rfl
theorem F138_ok : FOk Tryz.prog 138 (FI.of Tryz.f138 T138 B138) := FOk.of Tryz.func138 rfl T138_ok B138_ok Tryz.call138
def T139 : Tab := [(3, ti3), (30, ti30), (94, ti94)]
theorem T139_ok : TabOk Tryz.prog T139 := .cons tk3 <| .cons tk30 <| .cons tk94 <| .nil mixed
def B139 : SchT := []
theorem B139_ok : regsO B139 Tryz.f139.body = true := by kernel_rfl
theorem F139_ok : FOk Tryz.prog 139 (FI.of Tryz.f139 T139 B139) := FOk.of Tryz.func139 rfl T139_ok B139_ok Tryz.call139
def T140 : Tab := [(3, ti3), (31, ti31), (148, ti148)]
theorem T140_ok : TabOk Tryz.prog T140 := .cons tk3 <| .cons tk31 <| .cons tk148 <| .nil mixed
def B140 : SchT := []
theorem B140_ok : regsO B140 Tryz.f140.body = true := by kernel_rfl
theorem F140_ok : FOk Tryz.prog 140 (FI.of Tryz.f140 T140 B140) := FOk.of Tryz.func140 rfl T140_ok B140_ok Tryz.call140
def T141 : Tab := [(3, ti3), (32, ti32), (151, ti151)]
theorem T141_ok : TabOk Tryz.prog T141 := .cons tk3 <| .cons tk32 <| .cons tk151 <| .nil mixed
def B141 : SchT := []
theorem B141_ok : regsO B141 Tryz.f141.body = true := by kernel_rfl
theorem F141_ok : FOk Tryz.prog 141 (FI.of Tryz.f141 T141 B141) := FOk.of Tryz.func141 rfl T141_ok B141_ok Tryz.call141
def T142 : Tab := [(3, ti3), (114, ti114), (197, ti197)]
theorem T142_ok : TabOk Tryz.prog T142 := .cons tk3 <| .cons tk114 <| .cons tk197 <| .nil mixed
def B142 : SchT := []
theorem B142_ok : regsO B142 Tryz.f142.body = true := by kernel_rfl
theorem F142_ok : FOk Tryz.prog 142 (FI.of Tryz.f142 T142 B142) := FOk.of Tryz.func142 rfl T142_ok B142_ok Tryz.call142
def T143 : Tab := [(3, ti3)]
theorem T143_ok : TabOk Tryz.prog T143 := .cons tk3 <| .nil mixed
def B143 : SchT := []
theorem B143_ok : regsO B143 Tryz.f143.body = true := by kernel_rfl
theorem F143_ok : FOk Tryz.prog 143 (FI.of Tryz.f143 T143 B143) := FOk.of Tryz.func143 rfl T143_ok B143_ok Tryz.call143
def T144 : Tab := [(3, ti3), (4, ti4), (5, ti5), (193, ti193), (247, ti247)]
theorem T144_ok : TabOk Tryz.prog T144 := .cons tk3 <| .cons tk4 <| .cons tk5 <| .cons tk193 <| .cons tk247 <| .nil mixed
def B144 : SchT := []
theorem B144_ok : regsO B144 Tryz.f144.body = true := by kernel_rfl
theorem F144_ok : FOk Tryz.prog 144 (FI.of Tryz.f144 T144 B144) := FOk.of Tryz.func144 rfl T144_ok B144_ok Tryz.call144
def T145 : Tab := [(3, ti3), (195, ti195), (225, ti225), (226, ti226)]
theorem T145_ok : TabOk Tryz.prog T145 := .cons tk3 <| .cons tk195 <| .cons tk225 <| .cons tk226 <| .nil mixed
def B145 : SchT := []
theorem B145_ok : regsO B145 Tryz.f145.body = true := by kernel_rfl
theorem F145_ok : FOk Tryz.prog 145 (FI.of Tryz.f145 T145 B145) := FOk.of Tryz.func145 rfl T145_ok B145_ok Tryz.call145
def T146 : Tab := [(3, ti3), (4, ti4), (5, ti5), (116, ti116), (193, ti193), (225, ti225), (247, ti247)]
theorem T146_ok : TabOk Tryz.prog T146 := .cons tk3 <| .cons tk4 <| .cons tk5 <| .cons tk116 <| .cons tk193 <| .cons tk225 <| .cons tk247 <| .nil mixed
def B146 : SchT := []
theorem B146_ok : regsO B146 Tryz.f146.body = true := by kernel_rfl
theorem F146_ok : FOk Tryz.prog 146 (FI.of Tryz.f146 T146 B146) := FOk.of Tryz.func146 rfl T146_ok B146_ok Tryz.call146
def T147 : Tab := [(3, ti3), (5, ti5), (22, ti22), (31, ti31), (34, ti34), (73, ti73), (116, ti116), (148, ti148), (185, ti185), (228, ti228)]
theorem T147_ok : TabOk Tryz.prog T147 := .cons tk3 <| .cons tk5 <| .cons tk22 <| .cons tk31 <| .cons tk34 <| .cons tk73 <| .cons tk116 <| .cons tk148 <| .cons tk185 <| .cons tk228 <| .nil mixed
def B147 : SchT := [(9, [(0, some []), (1, some [0]), (2, some [0, 1]), (3, none), (4, some [0, 1, 2, 3]), (5, some [0, 1, 2, 3, 4]), (6, some [0, 1, 2, 3, 4, 5, 10, 11]), (7, some [0, 1, 2, 3, 4, 5, 6, 10, 11]), (8, some [0, 1, 2, 3, 4, 5, 6, 7, 10, 11]), (10, some [0, 1, 2, 3, 4, 5, 6, 7, 8, 9]), (9, some [0, 1, 2, 3, 4, 5, 6, 7, 8, 10, 11]), (11, none), (12, some [0, 1, 2, 3, 4, 5, 6, 7, 8, 9, 10, 11]), (13, some [0, 1, 2, 3, 4, 5, 6, 7, 8, 9, 10, 11, 12])])]
theorem B147_ok : regsO B147 Tryz.f147.body = true := by kernel_rfl
theorem F147_ok : FOk Tryz.prog 147 (FI.of Tryz.f147 T147 B147) := FOk.of Tryz.func147 rfl T147_ok B147_ok Tryz.call147
def T148 : Tab := [(3, ti3), (30, ti30), (34, ti34), (94, ti94), (256, ti256)]
theorem T148_ok : TabOk Tryz.prog T148 := .cons tk3 <| .cons tk30 <| .cons tk34 <| .cons tk94 <| .cons tk256 <| .nil mixed
def B148 : SchT := [(1, [(0, some [4]), (1, some [0, 4]), (2, some [0, 1, 4]), (3, some [0, 1, 2, 4]), (4, none), (5, none), (6, some [0, 1, 2, 3, 4, 5]), (7, some [0, 1, 2, 3, 4, 5, 6, 8]), (8, some [0, 1, 2, 3, 4, 5, 6, 7, 9]), (9, some [0, 1, 2, 3, 4, 5, 6, 7, 8]), (10, some [0, 1, 2, 3, 4, 5, 6, 7, 8, 9])]), (3, [(0, some [4, 5]), (1, some [0, 4, 5]), (2, some [0, 1, 4, 5]), (4, some [0, 1, 2, 3, 5]), (3, some [0, 1, 2, 4, 5]), (5, none), (6, some [0, 1, 2, 3, 4, 5]), (7, none)]), (4, [(0, some [1, 2, 3, 4, 5, 6, 7, 8]), (1, some [0, 5, 6, 7]), (2, some [0, 1, 5, 6, 7]), (3, some [0, 1, 2, 5, 6, 7]), (5, some [0, 1, 2, 3, 4, 6, 7]), (4, some [0, 1, 2, 3, 5, 6, 7]), (6, none), (7, none), (8, none), (9, some [0, 1, 2, 3, 4, 5, 6, 7, 8]), (10, some [0, 1, 2, 3, 4, 5, 6, 7, 8, 9]), (11, none)])]
theorem B148_ok : regsO B148 Tryz.f148.body = true := by kernel_rfl
theorem F148_ok : FOk Tryz.prog 148 (FI.of Tryz.f148 T148 B148) := FOk.of Tryz.func148 rfl T148_ok B148_ok Tryz.call148
def T149 : Tab := [(22, ti22)]
theorem T149_ok : TabOk Tryz.prog T149 := .cons tk22 <| .nil mixed
def B149 : SchT := []
theorem B149_ok : regsO B149 Tryz.f149.body = true := by kernel_rfl
theorem F149_ok : FOk Tryz.prog 149 (FI.of Tryz.f149 T149 B149) := FOk.of Tryz.func149 rfl T149_ok B149_ok Tryz.call149
def T150 : Tab := [(3, ti3), (5, ti5), (22, ti22), (23, ti23)]
theorem T150_ok : TabOk Tryz.prog T150 := .cons tk3 <| .cons tk5 <| .cons tk22 <| .cons tk23 <| .nil mixed
def B150 : SchT := []
theorem B150_ok : regsO B150 Tryz.f150.body = true := by kernel_rfl
theorem F150_ok : FOk Tryz.prog 150 (FI.of Tryz.f150 T150 B150) := FOk.of Tryz.func150 rfl T150_ok B150_ok Tryz.call150
def T151 : Tab := [(3, ti3), (5, ti5), (23, ti23)]
theorem T151_ok : TabOk Tryz.prog T151 := .cons tk3 <| .cons tk5 <| .cons tk23 <| .nil mixed
def B151 : SchT := [(4, [(0, some [1]), (1, some [0]), (2, some [0, 1]), (3, some [0, 1, 2]), (4, some [0, 1, 2, 3, 5, 8, 9, 10, 11, 12]), (5, some [0, 1, 2, 3, 4, 8, 9, 10, 11, 12]), (6, some [0, 1, 2, 3, 4, 5, 8, 9, 10, 11, 12]), (8, some [0, 1, 2, 3, 4, 5, 6, 7, 9, 10]), (9, some [0, 1, 2, 3, 4, 5, 6, 7, 8]), (10, some [0, 1, 2, 3, 4, 5, 6, 7, 8, 9]), (11, some [0, 1, 2, 3, 4, 5, 6, 7, 8, 9, 10]), (7, some [0, 1, 2, 3, 4, 5, 6, 8, 9, 10, 11, 12]), (12, none), (13, none), (14, some [0, 1, 2, 3, 4, 5, 6, 7, 8, 9, 10, 11, 12, 13])]), (6, [(0, some [1, 2, 3, 4, 5, 6, 7, 8, 9, 10, 11, 12, 13]), (1, some [0, 2, 3, 4, 5, 6, 7, 8, 9, 10, 11, 12, 13]), (2, some [0, 1, 3, 4, 5, 6, 7, 8, 9, 10, 11, 12, 13, 14, 15]), (3, some [0, 1, 2, 5, 6, 7, 8, 9, 10, 11, 12, 13, 14, 15]), (4, some [0, 1, 2, 3, 5, 6, 7, 8, 9, 10, 11, 12, 13, 14, 15]), (5, some [0, 1, 2, 3, 4, 6, 7, 10, 11, 12, 13]), (6, some [0, 1, 2, 3, 4, 5, 10, 11, 12, 13]), (7, some [0, 1, 2, 3, 4, 5, 6, 10, 11, 12, 13]), (8, some [0, 1, 2, 3, 4, 5, 6, 7, 10, 11, 12, 13]), (10, some [0, 1, 2, 3, 4, 5, 6, 7, 8, 9, 11]), (11, some [0, 1, 2, 3, 4, 5, 6, 7, 8, 9, 10]), (12, some [0, 1, 2, 3, 4, 5, 6, 7, 8, 9, 10, 11]), (9, some [0, 1, 2, 3, 4, 5, 6, 7, 8, 10, 11, 12, 13]), (13, none), (14, some [0, 1, 2, 3, 4, 5, 6, 7, 8, 9, 10, 11, 12, 13]), (15, none), (16, some [0, 1, 2, 3, 4, 5, 6, 7, 8, 9, 10, 11, 12, 13, 14, 15]), (17, none)])]
theorem B151_ok : regsO B151 Tryz.f151.body = true := by kernel_rfl
theorem F151_ok : FOk Tryz.prog 151 (FI.of Tryz.f151 T151 B151) := FOk.of Tryz.func151 rfl T151_ok B151_ok Tryz.call151
def T152 : Tab := [(3, ti3), (5, ti5), (23, ti23)]
theorem T152_ok : TabOk Tryz.prog T152 := .cons tk3 <| .cons tk5 <| .cons tk23 <| .nil mixed
def B152 : SchT := [(10, [(0, some [1, 2, 3, 4, 5, 6, 7, 8, 9, 10, 11, 12, 13, 14, 15]), (1, some [0, 2, 3, 4, 5, 6, 7, 8, 9, 10, 11, 12, 13, 14, 15]), (2, some [0, 1, 3, 4, 5, 6, 7, 8, 9, 10, 11, 12, 13, 14, 15, 16, 17]), (3, some [0, 1, 2, 4, 6, 7, 8, 9, 10, 11, 12, 13, 14, 15, 16, 17]), (4, some [0, 1, 2, 3, 6, 7, 8, 9, 10, 11, 12, 13, 14, 15, 16, 17]), (5, some [0, 1, 2, 3, 4, 6, 7, 8, 9, 10, 11, 12, 13, 14, 15, 16, 17]), (6, some [0, 1, 2, 3, 4, 5, 7, 8, 9, 12, 13, 14, 15]), (7, some [0, 1, 2, 3, 4, 5, 6, 8, 12, 13, 14, 15]), (8, some [0, 1, 2, 3, 4, 5, 6, 7, 12, 13, 14, 15]), (9, some [0, 1, 2, 3, 4, 5, 6, 7, 8, 12, 13, 14, 15]), (10, some [0, 1, 2, 3, 4, 5, 6, 7, 8, 9, 12, 13, 14, 15]), (12, some [0, 1, 2, 3, 4, 5, 6, 7, 8, 9, 10, 11, 13]), (13, some [0, 1, 2, 3, 4, 5, 6, 7, 8, 9, 10, 11, 12]), (14, some [0, 1, 2, 3, 4, 5, 6, 7, 8, 9, 10, 11, 12, 13]), (11, some [0, 1, 2, 3, 4, 5, 6, 7, 8, 9, 10, 12, 13, 14, 15]), (15, none), (16, some [0, 1, 2, 3, 4, 5, 6, 7, 8, 9, 10, 11, 12, 13, 14, 15]), (17, none), (18, some [0, 1, 2, 3, 4, 5, 6, 7, 8, 9, 10, 11, 12, 13, 14, 15, 16, 17]), (19, none)])]
theorem B152_ok : regsO B152 Tryz.f152.body = true := by kernel_rfl
theorem F152_ok : FOk Tryz.prog 152 (FI.of Tryz.f152 T152 B152) := FOk.of Tryz.func152 rfl T152_ok B152_ok Tryz.call152
def T153 : Tab := [(3, ti3), (5, ti5), (23, ti23), (168, ti168), (259, ti259)]
theorem T153_ok : TabOk Tryz.prog T153 := .cons tk3 <| .cons tk5 <| .cons tk23 <| .cons tk168 <| .cons tk259 <| .nil mixed
def B153 : SchT := [(10, [(0, some [1, 2, 3, 4, 5, 6, 7, 8, 9, 10, 11, 12, 13, 14, 15]), (1, some [0, 2, 3, 4, 5, 6, 7, 8, 9, 10, 11, 12, 13, 14, 15]), (2, some [0, 1, 3, 4, 5, 6, 7, 8, 9, 10, 11, 12, 13, 14, 15, 16, 17]), (3, some [0, 1, 2, 4, 6, 7, 8, 9, 10, 11, 12, 13, 14, 15, 16, 17]), (4, some [0, 1, 2, 3, 6, 7, 8, 9, 10, 11, 12, 13, 14, 15, 16, 17]), (5, some [0, 1, 2, 3, 4, 6, 7, 8, 9, 10, 11, 12, 13, 14, 15, 16, 17]), (6, some [0, 1, 2, 3, 4, 5, 7, 8, 9, 12, 13, 14, 15]), (7, some [0, 1, 2, 3, 4, 5, 6, 8, 12, 13, 14, 15]), (8, some [0, 1, 2, 3, 4, 5, 6, 7, 12, 13, 14, 15]), (9, some [0, 1, 2, 3, 4, 5, 6, 7, 8, 12, 13, 14, 15]), (10, some [0, 1, 2, 3, 4, 5, 6, 7, 8, 9, 12, 13, 14, 15]), (12, some [0, 1, 2, 3, 4, 5, 6, 7, 8, 9, 10, 11, 13]), (13, some [0, 1, 2, 3, 4, 5, 6, 7, 8, 9, 10, 11, 12]), (14, some [0, 1, 2, 3, 4, 5, 6, 7, 8, 9, 10, 11, 12, 13]), (11, some [0, 1, 2, 3, 4, 5, 6, 7, 8, 9, 10, 12, 13, 14, 15]), (15, none), (16, some [0, 1, 2, 3, 4, 5, 6, 7, 8, 9, 10, 11, 12, 13, 14, 15]), (17, none), (18, some [0, 1, 2, 3, 4, 5, 6, 7, 8, 9, 10, 11, 12, 13, 14, 15, 16, 17]), (19, none)])]
theorem B153_ok : regsO B153 Tryz.f153.body = true := by kernel_rfl
theorem F153_ok : FOk Tryz.prog 153 (FI.of Tryz.f153 T153 B153) := FOk.of Tryz.func153 rfl T153_ok B153_ok Tryz.call153
def T154 : Tab := [(3, ti3), (5, ti5), (23, ti23), (262, ti262)]
theorem T154_ok : TabOk Tryz.prog T154 := .cons tk3 <| .cons tk5 <| .cons tk23 <| .cons tk262 <| .nil mixed
def B154 : SchT := []
theorem B154_ok : regsO B154 Tryz.f154.body = true := by kernel_rfl
theorem F154_ok : FOk Tryz.prog 154 (FI.of Tryz.f154 T154 B154) := FOk.of Tryz.func154 rfl T154_ok B154_ok Tryz.call154
def T155 : Tab := [(3, ti3), (5, ti5), (23, ti23)]
theorem T155_ok : TabOk Tryz.prog T155 := .cons tk3 <| .cons tk5 <| .cons tk23 <| .nil mixed
def B155 : SchT := [(3, [(0, some [1, 2, 3, 4, 5, 6, 7, 8, 9, 10, 11]), (1, some [0, 2, 3, 4, 5, 6, 7, 8, 9, 10, 11]), (2, some [0, 1, 3, 4, 5, 6, 7, 8, 9, 10, 11, 12, 13]), (3, some [0, 1, 2, 4, 5, 6, 7, 8, 9, 10, 11, 12, 13]), (4, some [0, 1, 2, 3, 5, 8, 9, 10, 11]), (5, some [0, 1, 2, 3, 4, 8, 9, 10, 11]), (6, some [0, 1, 2, 3, 4, 5, 8, 9, 10, 11]), (8, some [0, 1, 2, 3, 4, 5, 6, 7, 9]), (9, some [0, 1, 2, 3, 4, 5, 6, 7, 8]), (10, some [0, 1, 2, 3, 4, 5, 6, 7, 8, 9]), (7, some [0, 1, 2, 3, 4, 5, 6, 8, 9, 10, 11]), (11, none), (12, some [0, 1, 2, 3, 4, 5, 6, 7, 8, 9, 10, 11]), (13, none), (14, some [0, 1, 2, 3, 4, 5, 6, 7, 8, 9, 10, 11, 12, 13]), (15, none)])]
theorem B155_ok : regsO B155 Tryz.f155.body = true := by kernel_rfl
theorem F155_ok : FOk Tryz.prog 155 (FI.of Tryz.f155 T155 B155) := FOk.of Tryz.func155 rfl T155_ok B155_ok Tryz.call155
def T156 : Tab := [(3, ti3), (4, ti4), (5, ti5), (23, ti23)]
theorem T156_ok : TabOk Tryz.prog T156 := .cons tk3 <| .cons tk4 <| .cons tk5 <| .cons tk23 <| .nil mixed
def B156 : SchT := [(5, [(0, some [1]), (1, some [0]), (2, some [0, 1]), (3, some [0, 1, 2]), (4, some [0, 1, 2, 3, 5, 8, 9, 10, 11, 12]), (5, some [0, 1, 2, 3, 4, 8, 9, 10, 11, 12]), (6, some [0, 1, 2, 3, 4, 5, 8, 9, 10, 11, 12]), (8, some [0, 1, 2, 3, 4, 5, 6, 7, 9, 10]), (9, some [0, 1, 2, 3, 4, 5, 6, 7, 8]), (10, some [0, 1, 2, 3, 4, 5, 6, 7, 8, 9]), (11, some [0, 1, 2, 3, 4, 5, 6, 7, 8, 9, 10]), (7, some [0, 1, 2, 3, 4, 5, 6, 8, 9, 10, 11, 12]), (12, none), (13, none), (14, some [0, 1, 2, 3, 4, 5, 6, 7, 8, 9, 10, 11, 12, 13]), (15, some [0, 1, 2, 3, 4, 5, 6, 7, 8, 9, 10, 11, 12, 13, 14])]), (11, [(0, some [1, 2, 3, 4, 5, 6, 7, 8, 9, 10, 11, 12, 13]), (1, some [0, 2, 3, 4, 5, 6, 7, 8, 9, 10, 11, 12, 13]), (2, some [0, 1, 3, 4, 5, 6, 7, 8, 9, 10, 11, 12, 13, 14, 15]), (3, some [0, 1, 2, 5, 6, 7, 8, 9, 10, 11, 12, 13, 14, 15]), (4, some [0, 1, 2, 3, 5, 6, 7, 8, 9, 10, 11, 12, 13, 14, 15]), (5, some [0, 1, 2, 3, 4, 6, 7, 10, 11, 12, 13]), (6, some [0, 1, 2, 3, 4, 5, 10, 11, 12, 13]), (7, some [0, 1, 2, 3, 4, 5, 6, 10, 11, 12, 13]), (8, some [0, 1, 2, 3, 4, 5, 6, 7, 10, 11, 12, 13]), (10, some [0, 1, 2, 3, 4, 5, 6, 7, 8, 9, 11]), (11, some [0, 1, 2, 3, 4, 5, 6, 7, 8, 9, 10]), (12, some [0, 1, 2, 3, 4, 5, 6, 7, 8, 9, 10, 11]), (9, some [0, 1, 2, 3, 4, 5, 6, 7, 8, 10, 11, 12, 13]), (13, none), (14, some [0, 1, 2, 3, 4, 5, 6, 7, 8, 9, 10, 11, 12, 13]), (15, none), (16, some [0, 1, 2, 3, 4, 5, 6, 7, 8, 9, 10, 11, 12, 13, 14, 15]), (17, none)]), (16, [(0, some [1, 4, 5, 6, 7, 8]), (1, some [0, 4, 5, 6, 7, 8]), (2, some [0, 1, 4, 5, 6, 7, 8]), (4, some [0, 1, 2, 3, 5, 6]), (5, some [0, 1, 2, 3, 4]), (6, some [0, 1, 2, 3, 4, 5]), (7, some [0, 1, 2, 3, 4, 5, 6]), (3, some [0, 1, 2, 4, 5, 6, 7, 8]), (8, none), (9, none), (10, some [0, 1, 2, 3, 4, 5, 6, 7, 8, 9])]), (17, [(0, some [1, 2, 3, 4, 5, 6, 7, 8, 9, 10, 11, 12, 13]), (1, some [0, 2, 3, 4, 5, 6, 7, 8, 9, 10, 11, 12, 13]), (2, some [0, 1, 3, 4, 5, 6, 7, 8, 9, 10, 11, 12, 13, 14, 15]), (3, some [0, 1, 2, 5, 6, 7, 8, 9, 10, 11, 12, 13, 14, 15]), (4, some [0, 1, 2, 3, 5, 6, 7, 8, 9, 10, 11, 12, 13, 14, 15]), (5, some [0, 1, 2, 3, 4, 6, 7, 10, 11, 12, 13]), (6, some [0, 1, 2, 3, 4, 5, 10, 11, 12, 13]), (7, some [0, 1, 2, 3, 4, 5, 6, 10, 11, 12, 13]), (8, some [0, 1, 2, 3, 4, 5, 6, 7, 10, 11, 12, 13]), (10, some [0, 1, 2, 3, 4, 5, 6, 7, 8, 9, 11]), (11, some [0, 1, 2, 3, 4, 5, 6, 7, 8, 9, 10]), (12, some [0, 1, 2, 3, 4, 5, 6, 7, 8, 9, 10, 11]), (9, some [0, 1, 2, 3, 4, 5, 6, 7, 8, 10, 11, 12, 13]), (13, none), (14, some [0, 1, 2, 3, 4, 5, 6, 7, 8, 9, 10, 11, 12, 13]), (15, none), (16, some [0, 1, 2, 3, 4, 5, 6, 7, 8, 9, 10, 11, 12, 13, 14, 15]), (17, none)]), (22, [(0, some [1, 4, 5, 6, 7, 8]), (1, some [0, 4, 5, 6, 7, 8]), (2, some [0, 1, 4, 5, 6, 7, 8]), (4, some [0, 1, 2, 3, 5, 6]), (5, some [0, 1, 2, 3, 4]), (6, some [0, 1, 2, 3, 4, 5]), (7, some [0, 1, 2, 3, 4, 5, 6]), (3, some [0, 1, 2, 4, 5, 6, 7, 8]), (8, none), (9, none), (10, some [0, 1, 2, 3, 4, 5, 6, 7, 8, 9])]), (23, [(0, some [1, 2, 3, 4, 5, 6, 7, 8, 9, 10, 11, 12, 13]), (1, some [0, 2, 3, 4, 5, 6, 7, 8, 9, 10, 11, 12, 13]), (2, some [0, 1, 3, 4, 5, 6, 7, 8, 9, 10, 11, 12, 13, 14, 15]), (3, some [0, 1, 2, 5, 6, 7, 8, 9, 10, 11, 12, 13, 14, 15]), (4, some [0, 1, 2, 3, 5, 6, 7, 8, 9, 10, 11, 12, 13, 14, 15]), (5, some [0, 1, 2, 3, 4, 6, 7, 10, 11, 12, 13]), (6, some [0, 1, 2, 3, 4, 5, 10, 11, 12, 13]), (7, some [0, 1, 2, 3, 4, 5, 6, 10, 11, 12, 13]), (8, some [0, 1, 2, 3, 4, 5, 6, 7, 10, 11, 12, 13]), (10, some [0, 1, 2, 3, 4, 5, 6, 7, 8, 9, 11]), (11, some [0, 1, 2, 3, 4, 5, 6, 7, 8, 9, 10]), (12, some [0, 1, 2, 3, 4, 5, 6, 7, 8, 9, 10, 11]), (9, some [0, 1, 2, 3, 4, 5, 6, 7, 8, 10, 11, 12, 13]), (13, none), (14, some [0, 1, 2, 3, 4, 5, 6, 7, 8, 9, 10, 11, 12, 13]), (15, none), (16, some [0, 1, 2, 3, 4, 5, 6, 7, 8, 9, 10, 11, 12, 13, 14, 15]), (17, none)])]
theorem B156_ok : regsO B156 Tryz.f156.body = true := by kernel_rfl
theorem F156_ok : FOk Tryz.prog 156 (FI.of Tryz.f156 T156 B156) := FOk.of Tryz.func156 rfl T156_ok B156_ok Tryz.call156
def T157 : Tab := [(4, ti4), (5, ti5)]
theorem T157_ok : TabOk Tryz.prog T157 := .cons tk4 <| .cons tk5 <| .nil mixed
def B157 : SchT := []
theorem B157_ok : regsO B157 Tryz.f157.body = true := by kernel_rfl
theorem F157_ok : FOk Tryz.prog 157 (FI.of Tryz.f157 T157 B157) := FOk.of Tryz.func157 rfl T157_ok B157_ok Tryz.call157
def T158 : Tab := [(3, ti3), (4, ti4), (5, ti5), (23, ti23)]
theorem T158_ok : TabOk Tryz.prog T158 := .cons tk3 <| .cons tk4 <| .cons tk5 <| .cons tk23 <| .nil mixed
def B158 : SchT := [(1, [(0, some [1, 2, 3, 4, 5, 6, 7, 8, 9, 10, 11]), (1, some [0, 2, 3, 4, 5, 6, 7, 8, 9, 10, 11]), (2, some [0, 1, 3, 4, 5, 6, 7, 8, 9, 10, 11, 12, 13]), (3, some [0, 1, 2, 4, 5, 6, 7, 8, 9, 10, 11, 12, 13]), (4, some [0, 1, 2, 3, 5, 8, 9, 10, 11]), (5, some [0, 1, 2, 3, 4, 8, 9, 10, 11]), (6, some [0, 1, 2, 3, 4, 5, 8, 9, 10, 11]), (8, some [0, 1, 2, 3, 4, 5, 6, 7, 9]), (9, some [0, 1, 2, 3, 4, 5, 6, 7, 8]), (10, some [0, 1, 2, 3, 4, 5, 6, 7, 8, 9]), (7, some [0, 1, 2, 3, 4, 5, 6, 8, 9, 10, 11]), (11, none), (12, some [0, 1, 2, 3, 4, 5, 6, 7, 8, 9, 10, 11]), (13, none), (14, some [0, 1, 2, 3, 4, 5, 6, 7, 8, 9, 10, 11, 12, 13]), (15, none)]), (3, [(0, some [1]), (1, some [0]), (2, some [0, 1]), (3, some [0, 1, 2]), (4, some [0, 1, 2, 3, 5, 8, 9, 10, 11]), (5, some [0, 1, 2, 3, 4, 8, 9, 10, 11]), (6, some [0, 1, 2, 3, 4, 5, 8, 9, 10, 11]), (8, some [0, 1, 2, 3, 4, 5, 6, 7, 9]), (9, some [0, 1, 2, 3, 4, 5, 6, 7, 8]), (10, some [0, 1, 2, 3, 4, 5, 6, 7, 8, 9]), (7, some [0, 1, 2, 3, 4, 5, 6, 8, 9, 10, 11]), (11, none), (12, none), (13, some [0, 1, 2, 3, 4, 5, 6, 7, 8, 9, 10, 11, 12]), (14, some [0, 1, 2, 3, 4, 5, 6, 7, 8, 9, 10, 11, 12, 13])]), (5, [(0, some [1]), (1, some [0]), (2, some [0, 1]), (3, some [0, 1, 2]), (4, some [0, 1, 2, 3, 5, 8, 9, 10, 11]), (5, some [0, 1, 2, 3, 4, 8, 9, 10, 11]), (6, some [0, 1, 2, 3, 4, 5, 8, 9, 10, 11]), (8, some [0, 1, 2, 3, 4, 5, 6, 7, 9]), (9, some [0, 1, 2, 3, 4, 5, 6, 7, 8]), (10, some [0, 1, 2, 3, 4, 5, 6, 7, 8, 9]), (7, some [0, 1, 2, 3, 4, 5, 6, 8, 9, 10, 11]), (11, none), (12, none), (13, some [0, 1, 2, 3, 4, 5, 6, 7, 8, 9, 10, 11, 12])]), (8, [(0, some [1, 2, 3, 4, 5, 6, 7, 8, 9, 10, 11]), (1, some [0, 2, 3, 4, 5, 6, 7, 8, 9, 10, 11]), (2, some [0, 1, 3, 4, 5, 6, 7, 8, 9, 10, 11, 12, 13]), (3, some [0, 1, 2, 4, 5, 6, 7, 8, 9, 10, 11, 12, 13]), (4, some [0, 1, 2, 3, 5, 8, 9, 10, 11]), (5, some [0, 1, 2, 3, 4, 8, 9, 10, 11]), (6, some [0, 1, 2, 3, 4, 5, 8, 9, 10, 11]), (8, some [0, 1, 2, 3, 4, 5, 6, 7, 9]), (9, some [0, 1, 2, 3, 4, 5, 6, 7, 8]), (10, some [0, 1, 2, 3, 4, 5, 6, 7, 8, 9]), (7, some [0, 1, 2, 3, 4, 5, 6, 8, 9, 10, 11]), (11, none), (12, some [0, 1, 2, 3, 4, 5, 6, 7, 8, 9, 10, 11]), (13, none), (14, some [0, 1, 2, 3, 4, 5, 6, 7, 8, 9, 10, 11, 12, 13]), (15, none)])]
theorem B158_ok : regsO B158 Tryz.f158.body = true := by kernel_rfl
theorem F158_ok : FOk Tryz.prog 158 (FI.of Tryz.f158 T158 B158) := FOk.of Tryz.func158 rfl T158_ok B158_ok Tryz.call158
def T159 : Tab := [(3, ti3), (4, ti4), (5, ti5), (23, ti23)]
theorem T159_ok : TabOk Tryz.prog T159 := .cons tk3 <| .cons tk4 <| .cons tk5 <| .cons tk23 <| .nil mixed
def B159 : SchT := [(1, [(0, some [1, 2, 3, 4, 5, 6, 7, 8, 9, 10, 11]), (1, some [0, 2, 3, 4, 5, 6, 7, 8, 9, 10, 11]), (2, some [0, 1, 3, 4, 5, 6, 7, 8, 9, 10, 11, 12, 13]), (3, some [0, 1, 2, 4, 5, 6, 7, 8, 9, 10, 11, 12, 13]), (4, some [0, 1, 2, 3, 5, 8, 9, 10, 11]), (5, some [0, 1, 2, 3, 4, 8, 9, 10, 11]), (6, some [0, 1, 2, 3, 4, 5, 8, 9, 10, 11]), (8, some [0, 1, 2, 3, 4, 5, 6, 7, 9]), (9, some [0, 1, 2, 3, 4, 5, 6, 7, 8]), (10, some [0, 1, 2, 3, 4, 5, 6, 7, 8, 9]), (7, some [0, 1, 2, 3, 4, 5, 6, 8, 9, 10, 11]), (11, none), (12, some [0, 1, 2, 3, 4, 5, 6, 7, 8, 9, 10, 11]), (13, none), (14, some [0, 1, 2, 3, 4, 5, 6, 7, 8, 9, 10, 11, 12, 13]), (15, none)]), (3, [(0, some [1]), (1, some [0]), (2, some [0, 1]), (3, some [0, 1, 2]), (4, some [0, 1, 2, 3, 5, 8, 9, 10, 11]), (5, some [0, 1, 2, 3, 4, 8, 9, 10, 11]), (6, some [0, 1, 2, 3, 4, 5, 8, 9, 10, 11]), (8, some [0, 1, 2, 3, 4, 5, 6, 7, 9]), (9, some [0, 1, 2, 3, 4, 5, 6, 7, 8]), (10, some [0, 1, 2, 3, 4, 5, 6, 7, 8, 9]), (7, some [0, 1, 2, 3, 4, 5, 6, 8, 9, 10, 11]), (11, none), (12, none), (13, some [0, 1, 2, 3, 4, 5, 6, 7, 8, 9, 10, 11, 12])]), (5, [(0, some [1]), (1, some [0]), (2, some [0, 1]), (3, some [0, 1, 2]), (4, some [0, 1, 2, 3, 5, 8, 9, 10, 11]), (5, some [0, 1, 2, 3, 4, 8, 9, 10, 11]), (6, some [0, 1, 2, 3, 4, 5, 8, 9, 10, 11]), (8, some [0, 1, 2, 3, 4, 5, 6, 7, 9]), (9, some [0, 1, 2, 3, 4, 5, 6, 7, 8]), (10, some [0, 1, 2, 3, 4, 5, 6, 7, 8, 9]), (7, some [0, 1, 2, 3, 4, 5, 6, 8, 9, 10, 11]), (11, none), (12, none), (13, some [0, 1, 2, 3, 4, 5, 6, 7, 8, 9, 10, 11, 12]), (14, some [0, 1, 2, 3, 4, 5, 6, 7, 8, 9, 10, 11, 12, 13])]), (8, [(0, some [1, 2, 3, 4, 5, 6, 7, 8, 9, 10, 11]), (1, some [0, 2, 3, 4, 5, 6, 7, 8, 9, 10, 11]), (2, some [0, 1, 3, 4, 5, 6, 7, 8, 9, 10, 11, 12, 13]), (3, some [0, 1, 2, 4, 5, 6, 7, 8, 9, 10, 11, 12, 13]), (4, some [0, 1, 2, 3, 5, 8, 9, 10, 11]), (5, some [0, 1, 2, 3, 4, 8, 9, 10, 11]), (6, some [0, 1, 2, 3, 4, 5, 8, 9, 10, 11]), (8, some [0, 1, 2, 3, 4, 5, 6, 7, 9]), (9, some [0, 1, 2, 3, 4, 5, 6, 7, 8]), (10, some [0, 1, 2, 3, 4, 5, 6, 7, 8, 9]), (7, some [0, 1, 2, 3, 4, 5, 6, 8, 9, 10, 11]), (11, none), (12, some [0, 1, 2, 3, 4, 5, 6, 7, 8, 9, 10, 11]), (13, none), (14, some [0, 1, 2, 3, 4, 5, 6, 7, 8, 9, 10, 11, 12, 13]), (15, none)]), (10, [(0, some [1, 2, 3, 4, 5, 6, 7, 8, 9, 10, 11]), (1, some [0, 2, 3, 4, 5, 6, 7, 8, 9, 10, 11]), (2, some [0, 1, 3, 4, 5, 6, 7, 8, 9, 10, 11, 12, 13]), (3, some [0, 1, 2, 4, 5, 6, 7, 8, 9, 10, 11, 12, 13]), (4, some [0, 1, 2, 3, 5, 8, 9, 10, 11]), (5, some [0, 1, 2, 3, 4, 8, 9, 10, 11]), (6, some [0, 1, 2, 3, 4, 5, 8, 9, 10, 11]), (8, some [0, 1, 2, 3, 4, 5, 6, 7, 9]), (9, some [0, 1, 2, 3, 4, 5, 6, 7, 8]), (10, some [0, 1, 2, 3, 4, 5, 6, 7, 8, 9]), (7, some [0, 1, 2, 3, 4, 5, 6, 8, 9, 10, 11]), (11, none), (12, some [0, 1, 2, 3, 4, 5, 6, 7, 8, 9, 10, 11]), (13, none), (14, some [0, 1, 2, 3, 4, 5, 6, 7, 8, 9, 10, 11, 12, 13]), (15, none)]), (13, [(0, some [1]), (1, some [0]), (2, some [0, 1]), (3, some [0, 1, 2]), (4, some [0, 1, 2, 3, 5, 8, 9, 10, 11]), (5, some [0, 1, 2, 3, 4, 8, 9, 10, 11]), (6, some [0, 1, 2, 3, 4, 5, 8, 9, 10, 11]), (8, some [0, 1, 2, 3, 4, 5, 6, 7, 9]), (9, some [0, 1, 2, 3, 4, 5, 6, 7, 8]), (10, some [0, 1, 2, 3, 4, 5, 6, 7, 8, 9]), (7, some [0, 1, 2, 3, 4, 5, 6, 8, 9, 10, 11]), (11, none), (12, none), (13, some [0, 1, 2, 3, 4, 5, 6, 7, 8, 9, 10, 11, 12])]), (15, [(0, some [1]), (1, some [0]), (2, some [0, 1]), (3, some [0, 1, 2]), (4, some [0, 1, 2, 3, 5, 8, 9, 10, 11]), (5, some [0, 1, 2, 3, 4, 8, 9, 10, 11]), (6, some [0, 1, 2, 3, 4, 5, 8, 9, 10, 11]), (8, some [0, 1, 2, 3, 4, 5, 6, 7, 9]), (9, some [0, 1, 2, 3, 4, 5, 6, 7, 8]), (10, some [0, 1, 2, 3, 4, 5, 6, 7, 8, 9]), (7, some [0, 1, 2, 3, 4, 5, 6, 8, 9, 10, 11]), (11, none), (12, none), (13, some [0, 1, 2, 3, 4, 5, 6, 7, 8, 9, 10, 11, 12]), (14, some [0, 1, 2, 3, 4, 5, 6, 7, 8, 9, 10, 11, 12, 13])]), (18, [(0, some [1, 2, 3, 4, 5, 6, 7, 8, 9, 10, 11]), (1, some [0, 2, 3, 4, 5, 6, 7, 8, 9, 10, 11]), (2, some [0, 1, 3, 4, 5, 6, 7, 8, 9, 10, 11, 12, 13]), (3, some [0, 1, 2, 4, 5, 6, 7, 8, 9, 10, 11, 12, 13]), (4, some [0, 1, 2, 3, 5, 8, 9, 10, 11]), (5, some [0, 1, 2, 3, 4, 8, 9, 10, 11]), (6, some [0, 1, 2, 3, 4, 5, 8, 9, 10, 11]), (8, some [0, 1, 2, 3, 4, 5, 6, 7, 9]), (9, some [0, 1, 2, 3, 4, 5, 6, 7, 8]), (10, some [0, 1, 2, 3, 4, 5, 6, 7, 8, 9]), (7, some [0, 1, 2, 3, 4, 5, 6, 8, 9, 10, 11]), (11, none), (12, some [0, 1, 2, 3, 4, 5, 6, 7, 8, 9, 10, 11]), (13, none), (14, some [0, 1, 2, 3, 4, 5, 6, 7, 8, 9, 10, 11, 12, 13]), (15, none)]), (21, [(0, some [1, 2, 3, 4, 5, 6, 7, 8, 9, 10, 11]), (1, some [0, 2, 3, 4, 5, 6, 7, 8, 9, 10, 11]), (2, some [0, 1, 3, 4, 5, 6, 7, 8, 9, 10, 11, 12, 13]), (3, some [0, 1, 2, 4, 5, 6, 7, 8, 9, 10, 11, 12, 13]), (4, some [0, 1, 2, 3, 5, 8, 9, 10, 11]), (5, some [0, 1, 2, 3, 4, 8, 9, 10, 11]), (6, some [0, 1, 2, 3, 4, 5, 8, 9, 10, 11]), (8, some [0, 1, 2, 3, 4, 5, 6, 7, 9]), (9, some [0, 1, 2, 3, 4, 5, 6, 7, 8]), (10, some [0, 1, 2, 3, 4, 5, 6, 7, 8, 9]), (7, some [0, 1, 2, 3, 4, 5, 6, 8, 9, 10, 11]), (11, none), (12, some [0, 1, 2, 3, 4, 5, 6, 7, 8, 9, 10, 11]), (13, none), (14, some [0, 1, 2, 3, 4, 5, 6, 7, 8, 9, 10, 11, 12, 13]), (15, none)])]
theorem B159_ok : regsO B159 Tryz.f159.body = true := by kernel_rfl
theorem F159_ok : FOk Tryz.prog 159 (FI.of Tryz.f159 T159 B159) := FOk.of Tryz.func159 rfl T159_ok B159_ok Tryz.call159
def T160 : Tab := [(3, ti3), (5, ti5), (9, ti9), (26, ti26)]
theorem T160_ok : TabOk Tryz.prog T160 := .cons tk3 <| .cons tk5 <| .cons tk9 <| .cons tk26 <| .nil mixed
def B160 : SchT := []
theorem B160_ok : regsO B160 Tryz.f160.body = true := by kernel_rfl
theorem F160_ok : FOk Tryz.prog 160 (FI.of Tryz.f160 T160 B160) := FOk.of Tryz.func160 rfl T160_ok B160_ok Tryz.call160
def T161 : Tab := [(3, ti3), (5, ti5), (9, ti9), (22, ti22)]
theorem T161_ok : TabOk Tryz.prog T161 := .cons tk3 <| .cons tk5 <| .cons tk9 <| .cons tk22 <| .nil mixed
def B161 : SchT := []
theorem B161_ok : regsO B161 Tryz.f161.body = true := by kernel_rfl
theorem F161_ok : FOk Tryz.prog 161 (FI.of Tryz.f161 T161 B161) := FOk.of Tryz.func161 rfl T161_ok B161_ok Tryz.call161
def T162 : Tab := [(5, ti5), (22, ti22), (23, ti23)]
theorem T162_ok : TabOk Tryz.prog T162 := .cons tk5 <| .cons tk22 <| .cons tk23 <| .nil mixed
def B162 : SchT := []
theorem B162_ok : regsO B162 Tryz.f162.body = true := by kernel_rfl
theorem F162_ok : FOk Tryz.prog 162 (FI.of Tryz.f162 T162 B162) := FOk.of Tryz.func162 rfl T162_ok B162_ok Tryz.call162
def T163 : Tab := [(3, ti3), (4, ti4), (168, ti168)]
theorem T163_ok : TabOk Tryz.prog T163 := .cons tk3 <| .cons tk4 <| .cons tk168 <| .nil mixed
def B163 : SchT := []
theorem B163_ok : regsO B163 Tryz.f163.body = true := by kernel_rfl
theorem F163_ok : FOk Tryz.prog 163 (FI.of Tryz.f163 T163 B163) := FOk.of Tryz.func163 rfl T163_ok B163_ok Tryz.call163
def T164 : Tab := [(22, ti22), (170, ti170), (205, ti205)]
theorem T164_ok : TabOk Tryz.prog T164 := .cons tk22 <| .cons tk170 <| .cons tk205 <| .nil mixed
def B164 : SchT := [(1, [(1, some [0, 5]), (0, some [1, 5]), (2, some [0, 1, 5]), (3, some [0, 1, 2, 5]), (4, some [0, 1, 2, 3, 5]), (5, none), (6, some [0, 1, 2, 3, 4, 5]), (7, some [0, 1, 2, 3, 4, 5, 6])])]
theorem B164_ok : regsO B164 Tryz.f164.body = true := by kernel_rfl
theorem F164_ok : FOk Tryz.prog 164 (FI.of Tryz.f164 T164 B164) := FOk.of Tryz.func164 rfl T164_ok B164_ok Tryz.call164
def T165 : Tab := [(5, ti5), (22, ti22), (23, ti23)]
theorem T165_ok : TabOk Tryz.prog T165 := .cons tk5 <| .cons tk22 <| .cons tk23 <| .nil mixed
def B165 : SchT := []
theorem B165_ok : regsO B165 Tryz.f165.body = true := by kernel_rfl
theorem F165_ok : FOk Tryz.prog 165 (FI.of Tryz.f165 T165 B165) := FOk.of Tryz.func165 rfl T165_ok B165_ok Tryz.call165
def T166 : Tab := [(3, ti3), (168, ti168), (170, ti170), (205, ti205), (245, ti245)]
theorem T166_ok : TabOk Tryz.prog T166 := .cons tk3 <| .cons tk168 <| .cons tk170 <| .cons tk205 <| .cons tk245 <| .nil mixed
def B166 : SchT := []
theorem B166_ok : regsO B166 Tryz.f166.body = true := by kernel_rfl
theorem F166_ok : FOk Tryz.prog 166 (FI.of Tryz.f166 T166 B166) := FOk.of Tryz.func166 rfl T166_ok B166_ok Tryz.call166
def T167 : Tab := [(3, ti3), (5, ti5), (22, ti22), (175, ti175), (205, ti205)]
theorem T167_ok : TabOk Tryz.prog T167 := .cons tk3 <| .cons tk5 <| .cons tk22 <| .cons tk175 <| .cons tk205 <| .nil mixed
def B167 : SchT := [(1, [(0, some [2, 3, 5, 6, 7, 8]), (2, some [0, 1, 5, 6, 7, 8]), (5, some [0, 1, 2, 3, 4, 7, 8]), (7, some [0, 1, 2, 3, 4, 5, 6]), (1, some [0, 2, 3, 5, 6, 7, 8]), (3, some [0, 1, 2, 5, 6, 7, 8]), (6, some [0, 1, 2, 3, 4, 5, 7, 8]), (8, some [0, 1, 2, 3, 4, 5, 6, 7]), (4, none), (9, none), (10, none), (11, none), (12, some [0, 1, 2, 3, 4, 5, 6, 7, 8, 9, 10, 11])])]
theorem B167_ok : regsO B167 Tryz.f167.body = true := by kernel_rfl
theorem F167_ok : FOk Tryz.prog 167 (FI.of Tryz.f167 T167 B167) := FOk.of Tryz.func167 rfl T167_ok B167_ok Tryz.call167
def T168 : Tab := [(2, ti2), (5, ti5), (247, ti247)]
theorem T168_ok : TabOk Tryz.prog T168 := .cons tk2 <| .cons tk5 <| .cons tk247 <| .nil mixed
def B168 : SchT := []
theorem B168_ok : regsO B168 Tryz.f168.body = true := by kernel_rfl
theorem F168_ok : FOk Tryz.prog 168 (FI.of Tryz.f168 T168 B168) := FOk.of Tryz.func168 rfl T168_ok B168_ok Tryz.call168
def T169 : Tab := [(5, ti5)]
theorem T169_ok : TabOk Tryz.prog T169 := .cons tk5 <| .nil mixed
def B169 : SchT := []
theorem B169_ok : regsO B169 Tryz.f169.body = true := by kernel_rfl
theorem F169_ok : FOk Tryz.prog 169 (FI.of Tryz.f169 T169 B169) := FOk.of Tryz.func169 rfl T169_ok B169_ok Tryz.call169
def T170 : Tab := [(3, ti3), (195, ti195), (225, ti225)]
theorem T170_ok : TabOk Tryz.prog T170 := .cons tk3 <| .cons tk195 <| .cons tk225 <| .nil mixed
def B170 : SchT := []
theorem B170_ok : regsO B170 Tryz.f170.body = true := by kernel_rfl
theorem F170_ok : FOk Tryz.prog 170 (FI.of Tryz.f170 T170 B170) := FOk.of Tryz.func170 rfl T170_ok B170_ok Tryz.call170
def T171 : Tab := [(2, ti2), (3, ti3), (5, ti5), (29, ti29), (30, ti30), (32, ti32), (34, ti34), (94, ti94), (116, ti116), (151, ti151)]
theorem T171_ok : TabOk Tryz.prog T171 := .cons tk2 <| .cons tk3 <| .cons tk5 <| .cons tk29 <| .cons tk30 <| .cons tk32 <| .cons tk34 <| .cons tk94 <| .cons tk116 <| .cons tk151 <| .nil mixed
def B171 : SchT := [(3, [(0, some [1, 2, 3, 4, 5, 6, 7, 8, 9, 10, 11, 12, 13]), (1, some [0, 2, 3, 4, 5, 6, 7, 8, 9, 10, 11, 12]), (2, some [0, 1, 5, 6, 7, 8, 9, 10, 11, 12]), (5, some [0, 1, 2, 3, 4, 9, 10, 11, 12]), (6, some [0, 1, 2, 3, 4, 5, 9, 10, 11, 12]), (7, some [0, 1, 2, 3, 4, 5, 6, 9, 10, 11, 12]), (9, some [0, 1, 2, 3, 4, 5, 6, 7, 8]), (10, some [0, 1, 2, 3, 4, 5, 6, 7, 8, 9]), (11, some [0, 1, 2, 3, 4, 5, 6, 7, 8, 9, 10]), (3, some [0, 1, 2, 5, 6, 7, 8, 9, 10, 11, 12]), (8, some [0, 1, 2, 3, 4, 5, 6, 7, 9, 10, 11, 12]), (12, some [0, 1, 2, 3, 4, 5, 6, 7, 8, 9, 10, 11]), (4, none), (13, some [0, 1, 2, 3, 4, 5, 6, 7, 8, 9, 10, 11, 12]), (14, some [0, 1, 2, 3, 4, 5, 6, 7, 8, 9, 10, 11, 12, 13]), (15, none)])]
theorem B171_ok : regsO B171 Tryz.f171.body = true := by kernel_rfl
theorem F171_ok : FOk Tryz.prog 171 (FI.of Tryz.f171 T171 B171) := FOk.of Tryz.func171 rfl T171_ok B171_ok Tryz.call171
def T172 : Tab := [(3, ti3), (5, ti5), (22, ti22), (34, ti34), (73, ti73), (116, ti116), (228, ti228)]
theorem T172_ok : TabOk Tryz.prog T172 := .cons tk3 <| .cons tk5 <| .cons tk22 <| .cons tk34 <| .cons tk73 <| .cons tk116 <| .cons tk228 <| .nil mixed
def B172 : SchT := [(1, [(0, some [3, 4, 5, 6, 7, 8]), (1, some [0, 3, 4, 5, 6, 7, 8]), (3, some [0, 1, 2, 5, 6, 7, 8]), (5, some [0, 1, 2, 3, 4, 7, 8]), (7, some [0, 1, 2, 3, 4, 5, 6]), (2, some [0, 1, 3, 4, 5, 6, 7, 8]), (4, some [0, 1, 2, 3, 5, 6, 7, 8]), (6, some [0, 1, 2, 3, 4, 5, 7, 8]), (8, none), (9, none), (10, some [0, 1, 2, 3, 4, 5, 6, 7, 8, 9])])]
theorem B172_ok : regsO B172 Tryz.f172.body = true := by kernel_rfl
theorem F172_ok : FOk Tryz.prog 172 (FI.of Tryz.f172 T172 B172) := FOk.of Tryz.func172 rfl T172_ok B172_ok Tryz.call172
def T173 : Tab := [(3, ti3), (4, ti4), (31, ti31), (148, ti148), (185, ti185)]
theorem T173_ok : TabOk Tryz.prog T173 := .cons tk3 <| .cons tk4 <| .cons tk31 <| .cons tk148 <| .cons tk185 <| .nil mixed
def B173 : SchT := []
theorem B173_ok : regsO B173 Tryz.f173.body = true := by kernel_rfl
theorem F173_ok : FOk Tryz.prog 173 (FI.of Tryz.f173 T173 B173) := FOk.of Tryz.func173 rfl T173_ok B173_ok Tryz.call173
def T174 : Tab := [(22, ti22), (73, ti73), (148, ti148)]
theorem T174_ok : TabOk Tryz.prog T174 := .cons tk22 <| .cons tk73 <| .cons tk148 <| .nil mixed
def B174 : SchT := []
theorem B174_ok : regsO B174 Tryz.f174.body = true := by kernel_rfl
theorem F174_ok : FOk Tryz.prog 174 (FI.of Tryz.f174 T174 B174) := FOk.of Tryz.func174 rfl T174_ok B174_ok Tryz.call174
def T175 : Tab := [(2, ti2), (3, ti3), (22, ti22), (29, ti29), (31, ti31), (34, ti34), (42, ti42), (73, ti73), (116, ti116), (148, ti148)]
theorem T175_ok : TabOk Tryz.prog T175 := .cons tk2 <| .cons tk3 <| .cons tk22 <| .cons tk29 <| .cons tk31 <| .cons tk34 <| .cons tk42 <| .cons tk73 <| .cons tk116 <| .cons tk148 <| .nil mixed
def B175 : SchT := [(1, [(1, some [0, 5, 6, 7, 8, 9, 10, 11, 12, 13]), (2, some [0, 1, 5, 6, 7, 8, 9, 10, 11, 12, 13]), (3, some [0, 1, 2, 5, 6, 7, 8, 9, 10, 11, 12, 13]), (5, some [0, 1, 2, 3, 4, 7, 8, 9, 10, 11, 12, 13]), (7, some [0, 1, 2, 3, 4, 5, 6, 8, 9, 10, 11, 12, 13]), (8, some [0, 1, 2, 3, 4, 5, 6, 7, 12, 13]), (9, some [0, 1, 2, 3, 4, 5, 6, 7, 8, 12, 13]), (10, some [0, 1, 2, 3, 4, 5, 6, 7, 8, 9, 12, 13]), (12, some [0, 1, 2, 3, 4, 5, 6, 7, 8, 9, 10, 11]), (0, some [1, 2, 3, 4, 5, 6, 7, 8, 9, 10, 11, 12, 13]), (4, some [0, 1, 2, 3, 5, 6, 7, 8, 9, 10, 11, 12, 13]), (6, some [0, 1, 2, 3, 4, 5, 7, 8, 9, 10, 11, 12, 13]), (11, some [0, 1, 2, 3, 4, 5, 6, 7, 8, 9, 10, 12, 13]), (13, none), (14, none), (15, some [0, 1, 2, 3, 4, 5, 6, 7, 8, 9, 10, 11, 12, 13, 14]), (16, some [0, 1, 2, 3, 4, 5, 6, 7, 8, 9, 10, 11, 12, 13, 14, 15, 17, 18, 19]), (17, some [0, 1, 2, 3, 4, 5, 6, 7, 8, 9, 10, 11, 12, 13, 14, 15, 16, 18, 19, 20]), (18, some [0, 1, 2, 3, 4, 5, 6, 7, 8, 9, 10, 11, 12, 13, 14, 15, 16, 17, 19, 20, 21]), (19, some [0, 1, 2, 3, 4, 5, 6, 7, 8, 9, 10, 11, 12, 13, 14, 15, 16, 17, 18, 20, 21, 22]), (20, some [0, 1, 2, 3, 4, 5, 6, 7, 8, 9, 10, 11, 12, 13, 14, 15, 16, 17, 18, 19]), (21, some [0, 1, 2, 3, 4, 5, 6, 7, 8, 9, 10, 11, 12, 13, 14, 15, 16, 17, 18, 19, 20]), (22, some [0, 1, 2, 3, 4, 5, 6, 7, 8, 9, 10, 11, 12, 13, 14, 15, 16, 17, 18, 19, 20, 21]), (23, some [0, 1, 2, 3, 4, 5, 6, 7, 8, 9, 10, 11, 12, 13, 14, 15, 16, 17, 18, 19, 20, 21, 22])]), (13, [(0, some [1, 2, 3, 4, 5, 6, 7]), (1, some [0, 5, 6]), (2, some [0, 1, 5, 6]), (3, some [0, 1, 2, 5, 6]), (4, some [0, 1, 2, 3, 5, 6]), (5, none), (6, none), (7, none), (8, some [0, 1, 2, 3, 4, 5, 6, 7]), (9, some [0, 1, 2, 3, 4, 5, 6, 7, 8]), (10, none)])]
theorem B175_ok : regsO B175 Tryz.f175.body = true := by kernel_rfl
theorem F175_ok : FOk Tryz.prog 175 (FI.of Tryz.f175 T175 B175) := FOk.of Tryz.func175 rfl T175_ok B175_ok Tryz.call175
def T176 : Tab := [(3, ti3), (22, ti22), (30, ti30), (31, ti31), (32, ti32), (34, ti34), (94, ti94), (148, ti148), (151, ti151)]
theorem T176_ok : TabOk Tryz.prog T176 := .cons tk3 <| .cons tk22 <| .cons tk30 <| .cons tk31 <| .cons tk32 <| .cons tk34 <| .cons tk94 <| .cons tk148 <| .cons tk151 <| .nil mixed
def B176 : SchT := [(3, [(0, some [1, 2, 3, 4, 5, 6, 7, 8, 9, 10, 11, 12, 13]), (1, some [0, 5, 6, 7, 8, 9, 10, 11, 12]), (2, some [0, 1, 5, 6, 7, 8, 9, 10, 11, 12]), (3, some [0, 1, 2, 5, 6, 7, 8, 9, 10, 11, 12]), (5, some [0, 1, 2, 3, 4, 9, 10, 11, 12]), (6, some [0, 1, 2, 3, 4, 5, 9, 10, 11, 12]), (7, some [0, 1, 2, 3, 4, 5, 6, 9, 10, 11, 12]), (9, some [0, 1, 2, 3, 4, 5, 6, 7, 8]), (10, some [0, 1, 2, 3, 4, 5, 6, 7, 8, 9]), (11, some [0, 1, 2, 3, 4, 5, 6, 7, 8, 9, 10]), (4, some [0, 1, 2, 3, 5, 6, 7, 8, 9, 10, 11, 12]), (8, some [0, 1, 2, 3, 4, 5, 6, 7, 9, 10, 11, 12]), (12, none), (13, some [0, 1, 2, 3, 4, 5, 6, 7, 8, 9, 10, 11, 12]), (14, some [0, 1, 2, 3, 4, 5, 6, 7, 8, 9, 10, 11, 12, 13]), (15, none)])]
theorem B176_ok : regsO B176 Tryz.f176.body = true := by kernel_rfl
theorem F176_ok : FOk Tryz.prog 176 (FI.of Tryz.f176 T176 B176) := FOk.of Tryz.func176 rfl T176_ok B176_ok Tryz.call176
def T177 : Tab := [(3, ti3), (30, ti30), (94, ti94), (168, ti168)]
theorem T177_ok : TabOk Tryz.prog T177 := .cons tk3 <| .cons tk30 <| .cons tk94 <| .cons tk168 <| .nil mixed
def B177 : SchT := [(5, [(0, some [1, 2, 3, 4, 5]), (1, some [0, 2, 5]), (2, some [0, 1, 5]), (3, some [0, 1, 2, 5]), (4, some [0, 1, 2, 3, 5]), (5, none), (6, none), (7, some [0, 1, 2, 3, 4, 5, 6])]), (8, [(0, some [1, 2, 3, 4, 5, 6, 7, 8, 9, 10, 11, 12, 13]), (1, some [0, 2]), (2, some [0, 1]), (3, some [0, 1, 2]), (4, some [0, 1, 2, 3]), (5, some [0, 1, 2, 3, 4, 6, 7, 8, 9, 10]), (6, some [0, 1, 2, 3, 4, 5, 7, 10]), (7, some [0, 1, 2, 3, 4, 5, 6, 10]), (8, some [0, 1, 2, 3, 4, 5, 6, 7, 10]), (9, some [0, 1, 2, 3, 4, 5, 6, 7, 8, 10]), (10, none), (11, none), (12, some [0, 1, 2, 3, 4, 5, 6, 7, 8, 9, 10, 11, 14]), (13, some [0, 1, 2, 3, 4, 5, 6, 7, 8, 9, 10, 11, 12, 14]), (14, some [0, 1, 2, 3, 4, 5, 6, 7, 8, 9, 10, 11, 12, 13]), (15, some [0, 1, 2, 3, 4, 5, 6, 7, 8, 9, 10, 11, 12, 13, 14])])]
theorem B177_ok : regsO B177 Tryz.f177.body = true := by kernel_rfl
theorem F177_ok : FOk Tryz.prog 177 (FI.of Tryz.f177 T177 B177) := FOk.of Tryz.func177 rfl T177_ok B177_ok Tryz.call177
def T178 : Tab := [(3, ti3), (5, ti5), (94, ti94)]
theorem T178_ok : TabOk Tryz.prog T178 := .cons tk3 <| .cons tk5 <| .cons tk94 <| .nil mixed
def B178 : SchT := []
theorem B178_ok : regsO B178 Tryz.f178.body = true := by kernel_rfl
theorem F178_ok : FOk Tryz.prog 178 (FI.of Tryz.f178 T178 B178) := FOk.of Tryz.func178 rfl T178_ok B178_ok Tryz.call178
def T179 : Tab := [(3, ti3), (4, ti4), (30, ti30), (94, ti94)]
theorem T179_ok : TabOk Tryz.prog T179 := .cons tk3 <| .cons tk4 <| .cons tk30 <| .cons tk94 <| .nil mixed
def B179 : SchT := [(11, [(0, some [1, 2, 3, 5, 6, 7]), (1, some [0, 2, 5, 6, 7]), (2, some [0, 1, 5, 6, 7]), (3, some [0, 1, 2, 5, 6, 7]), (4, some [0, 1, 2, 3, 5, 6, 7]), (5, some [0, 1, 2, 3, 4, 6]), (6, some [0, 1, 2, 3, 4, 5]), (7, some [0, 1, 2, 3, 4, 5, 6]), (8, none)]), (15, [(0, some [1, 2, 3, 5, 6, 7]), (1, some [0, 2, 5, 6, 7]), (2, some [0, 1, 5, 6, 7]), (3, some [0, 1, 2, 5, 6, 7]), (4, some [0, 1, 2, 3, 5, 6, 7]), (5, some [0, 1, 2, 3, 4, 6]), (6, some [0, 1, 2, 3, 4, 5]), (7, some [0, 1, 2, 3, 4, 5, 6]), (8, none)])]
theorem B179_ok : regsO B179 Tryz.f179.body = true := by kernel_rfl
theorem F179_ok : FOk Tryz.prog 179 (FI.of Tryz.f179 T179 B179) := FOk.of Tryz.func179 rfl T179_ok B179_ok Tryz.call179
def T180 : Tab := [(22, ti22)]
theorem T180_ok : TabOk Tryz.prog T180 := .cons tk22 <| .nil mixed
def B180 : SchT := []
theorem B180_ok : regsO B180 Tryz.f180.body = true := by kernel_rfl
theorem F180_ok : FOk Tryz.prog 180 (FI.of Tryz.f180 T180 B180) := FOk.of Tryz.func180 rfl T180_ok B180_ok Tryz.call180
def T181 : Tab := [(3, ti3), (4, ti4), (5, ti5), (23, ti23)]
theorem T181_ok : TabOk Tryz.prog T181 := .cons tk3 <| .cons tk4 <| .cons tk5 <| .cons tk23 <| .nil mixed
def B181 : SchT := [(3, [(0, some [2]), (1, some [0, 2]), (2, some [0, 1]), (3, some [0, 1, 2]), (4, some [0, 1, 2, 3]), (5, some [0, 1, 2, 3, 4, 6, 7, 8, 11, 12, 13, 14, 15, 16, 17]), (6, some [0, 1, 2, 3, 4, 5, 7, 11, 12, 13, 14, 15, 16, 17]), (7, some [0, 1, 2, 3, 4, 5, 6, 11, 12, 13, 14, 15, 16, 17]), (8, some [0, 1, 2, 3, 4, 5, 6, 7, 11, 12, 13, 14, 15, 16, 17]), (9, some [0, 1, 2, 3, 4, 5, 6, 7, 8, 11, 12, 13, 14, 15, 16, 17]), (11, some [0, 1, 2, 3, 4, 5, 6, 7, 8, 9, 10, 12, 13, 14, 15]), (12, some [0, 1, 2, 3, 4, 5, 6, 7, 8, 9, 10, 11, 13]), (13, some [0, 1, 2, 3, 4, 5, 6, 7, 8, 9, 10, 11, 12]), (14, some [0, 1, 2, 3, 4, 5, 6, 7, 8, 9, 10, 11, 12, 13]), (15, some [0, 1, 2, 3, 4, 5, 6, 7, 8, 9, 10, 11, 12, 13, 14]), (16, some [0, 1, 2, 3, 4, 5, 6, 7, 8, 9, 10, 11, 12, 13, 14, 15]), (10, some [0, 1, 2, 3, 4, 5, 6, 7, 8, 9, 11, 12, 13, 14, 15, 16, 17]), (17, none), (18, none), (19, some [0, 1, 2, 3, 4, 5, 6, 7, 8, 9, 10, 11, 12, 13, 14, 15, 16, 17, 18])]), (5, [(0, some [1, 2, 3, 6, 7, 8, 9, 10, 11]), (1, some [0, 2, 6, 7, 8, 9, 10, 11]), (2, some [0, 1, 6, 7, 8, 9, 10, 11]), (3, some [0, 1, 2, 6, 7, 8, 9, 10, 11]), (4, some [0, 1, 2, 3, 6, 7, 8, 9, 10, 11]), (6, some [0, 1, 2, 3, 4, 5, 7, 8, 9]), (7, some [0, 1, 2, 3, 4, 5, 6, 8]), (8, some [0, 1, 2, 3, 4, 5, 6, 7]), (9, some [0, 1, 2, 3, 4, 5, 6, 7, 8]), (10, some [0, 1, 2, 3, 4, 5, 6, 7, 8, 9]), (5, some [0, 1, 2, 3, 4, 6, 7, 8, 9, 10, 11]), (11, none), (12, none), (13, some [0, 1, 2, 3, 4, 5, 6, 7, 8, 9, 10, 11, 12])]), (6, [(0, some [1, 2, 3, 4, 5, 6, 7, 8, 9, 10, 11, 12, 13, 14, 15, 16, 17, 18, 19]), (1, some [0, 2, 4, 5, 6, 7, 8, 9, 10, 11, 12, 13, 14, 15, 16, 17, 18, 19]), (2, some [0, 1, 4, 5, 6, 7, 8, 9, 10, 11, 12, 13, 14, 15, 16, 17, 18, 19]), (3, some [0, 1, 2, 4, 5, 6, 7, 8, 9, 10, 11, 12, 13, 14, 15, 16, 17, 18, 19]), (4, some [0, 1, 2, 3, 5, 6, 7, 8, 9, 10, 11, 12, 13, 14, 15, 16, 17, 18, 19, 20, 21]), (5, some [0, 1, 2, 3, 4, 6, 8, 9, 10, 11, 12, 13, 14, 15, 16, 17, 18, 19, 20, 21]), (6, some [0, 1, 2, 3, 4, 5, 8, 9, 10, 11, 12, 13, 14, 15, 16, 17, 18, 19, 20, 21]), (7, some [0, 1, 2, 3, 4, 5, 6, 8, 9, 10, 11, 12, 13, 14, 15, 16, 17, 18, 19, 20, 21]), (8, some [0, 1, 2, 3, 4, 5, 6, 7, 9, 10, 11, 14, 15, 16, 17, 18, 19]), (9, some [0, 1, 2, 3, 4, 5, 6, 7, 8, 10, 14, 15, 16, 17, 18, 19]), (10, some [0, 1, 2, 3, 4, 5, 6, 7, 8, 9, 14, 15, 16, 17, 18, 19]), (11, some [0, 1, 2, 3, 4, 5, 6, 7, 8, 9, 10, 14, 15, 16, 17, 18, 19]), (12, some [0, 1, 2, 3, 4, 5, 6, 7, 8, 9, 10, 11, 14, 15, 16, 17, 18, 19]), (14, some [0, 1, 2, 3, 4, 5, 6, 7, 8, 9, 10, 11, 12, 13, 15, 16, 17]), (15, some [0, 1, 2, 3, 4, 5, 6, 7, 8, 9, 10, 11, 12, 13, 14, 16]), (16, some [0, 1, 2, 3, 4, 5, 6, 7, 8, 9, 10, 11, 12, 13, 14, 15]), (17, some [0, 1, 2, 3, 4, 5, 6, 7, 8, 9, 10, 11, 12, 13, 14, 15, 16]), (18, some [0, 1, 2, 3, 4, 5, 6, 7, 8, 9, 10, 11, 12, 13, 14, 15, 16, 17]), (13, some [0, 1, 2, 3, 4, 5, 6, 7, 8, 9, 10, 11, 12, 14, 15, 16, 17, 18, 19]), (19, none), (20, some [0, 1, 2, 3, 4, 5, 6, 7, 8, 9, 10, 11, 12, 13, 14, 15, 16, 17, 18, 19]), (21, none), (22, some [0, 1, 2, 3, 4, 5, 6, 7, 8, 9, 10, 11, 12, 13, 14, 15, 16, 17, 18, 19, 20, 21]), (23, none)])]
theorem B181_ok : regsO B181 Tryz.f181.body = true := by kernel_rfl
theorem F181_ok : FOk Tryz.prog 181 (FI.of Tryz.f181 T181 B181) := FOk.of Tryz.func181 rfl T181_ok B181_ok Tryz.call181
def T182 : Tab := [(3, ti3), (168, ti168)]
theorem T182_ok : TabOk Tryz.prog T182 := .cons tk3 <| .cons tk168 <| .nil mixed
def B182 : SchT := []
theorem B182_ok : regsO B182 Tryz.f182.body = true := by kernel_rfl
theorem F182_ok : FOk Tryz.prog 182 (FI.of Tryz.f182 T182 B182) := FOk.of Tryz.func182 rfl T182_ok B182_ok Tryz.call182
def T183 : Tab := [(259, ti259)]
theorem T183_ok : TabOk Tryz.prog T183 := .cons tk259 <| .nil mixed
def B183 : SchT := [(1, [(0, some [3, 4, 5, 6]), (1, some [0, 3, 4, 5, 6]), (3, some [0, 1, 2]), (4, some [0, 1, 2, 3]), (2, some [0, 1, 3, 4, 5, 6]), (5, none), (6, some [0, 1, 2, 3, 4, 5]), (7, some [0, 1, 2, 3, 4, 5, 6]), (8, some [0, 1, 2, 3, 4, 5, 6, 7]), (9, none)]), (2, [(0, some [3, 4, 5, 6]), (1, some [0, 3, 4, 5, 6]), (3, some [0, 1, 2]), (4, some [0, 1, 2, 3]), (2, some [0, 1, 3, 4, 5, 6]), (5, none), (6, some [0, 1, 2, 3, 4, 5]), (7, some [0, 1, 2, 3, 4, 5, 6]), (8, some [0, 1, 2, 3, 4, 5, 6, 7]), (9, none)]), (3, [(0, some [3, 4, 5, 6]), (1, some [0, 3, 4, 5, 6]), (3, some [0, 1, 2]), (4, some [0, 1, 2, 3]), (2, some [0, 1, 3, 4, 5, 6]), (5, none), (6, some [0, 1, 2, 3, 4, 5]), (7, some [0, 1, 2, 3, 4, 5, 6]), (8, some [0, 1, 2, 3, 4, 5, 6, 7]), (9, none)])]
theorem B183_ok : regsO B183 Tryz.f183.body = true := by kernel_rfl
theorem F183_ok : FOk Tryz.prog 183 (FI.of Tryz.f183 T183 B183) := FOk.of Tryz.func183 rfl T183_ok B183_ok Tryz.call183
def T184 : Tab := [(3, ti3), (5, ti5), (23, ti23), (262, ti262)]
theorem T184_ok : TabOk Tryz.prog T184 := .cons tk3 <| .cons tk5 <| .cons tk23 <| .cons tk262 <| .nil mixed
def B184 : SchT := []
theorem B184_ok : regsO B184 Tryz.f184.body = true := by kernel_rfl
theorem F184_ok : FOk Tryz.prog 184 (FI.of Tryz.f184 T184 B184) := FOk.of Tryz.func184 rfl T184_ok B184_ok Tryz.call184
def T185 : Tab := [(3, ti3), (5, ti5), (23, ti23), (262, ti262)]
theorem T185_ok : TabOk Tryz.prog T185 := .cons tk3 <| .cons tk5 <| .cons tk23 <| .cons tk262 <| .nil mixed
def B185 : SchT := []
theorem B185_ok : regsO B185 Tryz.f185.body = true := by kernel_rfl
theorem F185_ok : FOk Tryz.prog 185 (FI.of Tryz.f185 T185 B185) := FOk.of Tryz.func185 rfl T185_ok B185_ok Tryz.call185
def T186 : Tab := [(22, ti22)]
theorem T186_ok : TabOk Tryz.prog T186 := .cons tk22 <| .nil mixed
def B186 : SchT := []
theorem B186_ok : regsO B186 Tryz.f186.body = true := by kernel_rfl
theorem F186_ok : FOk Tryz.prog 186 (FI.of Tryz.f186 T186 B186) := FOk.of Tryz.func186 rfl T186_ok B186_ok Tryz.call186
def T187 : Tab := [(3, ti3), (5, ti5), (22, ti22), (23, ti23)]
theorem T187_ok : TabOk Tryz.prog T187 := .cons tk3 <| .cons tk5 <| .cons tk22 <| .cons tk23 <| .nil mixed
def B187 : SchT := []
theorem B187_ok : regsO B187 Tryz.f187.body = true := by kernel_rfl
theorem F187_ok : FOk Tryz.prog 187 (FI.of Tryz.f187 T187 B187) := FOk.of Tryz.func187 rfl T187_ok B187_ok Tryz.call187
def T188 : Tab := [(3, ti3), (4, ti4), (170, ti170), (205, ti205), (232, ti232), (245, ti245)]
theorem T188_ok : TabOk Tryz.prog T188 := .cons tk3 <| .cons tk4 <| .cons tk170 <| .cons tk205 <| .cons tk232 <| .cons tk245 <| .nil mixed
def B188 : SchT := [(17, [(0, some []), (1, some [0]), (2, some [0, 1]), (3, some [0, 1, 2, 4, 5, 6, 7, 8, 9, 10, 11, 12]), (4, some [0, 1, 2, 3, 5, 6, 9, 10, 11, 12]), (5, some [0, 1, 2, 3, 4, 9, 10, 11, 12]), (6, some [0, 1, 2, 3, 4, 5, 9, 10, 11, 12]), (7, some [0, 1, 2, 3, 4, 5, 6, 9, 10, 11, 12]), (9, some [0, 1, 2, 3, 4, 5, 6, 7, 8, 10]), (10, some [0, 1, 2, 3, 4, 5, 6, 7, 8, 9]), (11, some [0, 1, 2, 3, 4, 5, 6, 7, 8, 9, 10]), (8, some [0, 1, 2, 3, 4, 5, 6, 7, 9, 10, 11, 12]), (12, none), (13, none), (14, some [0, 1, 2, 3, 4, 5, 6, 7, 8, 9, 10, 11, 12, 13]), (15, some [0, 1, 2, 3, 4, 5, 6, 7, 8, 9, 10, 11, 12, 13, 14]), (16, some [0, 1, 2, 3, 4, 5, 6, 7, 8, 9, 10, 11, 12, 13, 14, 15])])]
theorem B188_ok : regsO B188 Tryz.f188.body = true := by kernel_rfl
theorem F188_ok : FOk Tryz.prog 188 (FI.of Tryz.f188 T188 B188) := FOk.of Tryz.func188 rfl T188_ok B188_ok Tryz.call188
def T189 : Tab := [(5, ti5), (22, ti22), (32, ti32), (34, ti34), (151, ti151), (189, ti189)]
theorem T189_ok : TabOk Tryz.prog T189 := .cons tk5 <| .cons tk22 <| .cons tk32 <| .cons tk34 <| .cons tk151 <| .cons tk189 <| .nil mixed
def B189 : SchT := []
theorem B189_ok : regsO B189 Tryz.f189.body = true := by kernel_rfl
theorem F189_ok : FOk Tryz.prog 189 (FI.of Tryz.f189 T189 B189) := FOk.of Tryz.func189 rfl T189_ok B189_ok Tryz.call189
def T190 : Tab := [(3, ti3), (5, ti5), (22, ti22), (32, ti32), (34, ti34), (73, ti73), (151, ti151), (280, ti280)]
theorem T190_ok : TabOk Tryz.prog T190 := .cons tk3 <| .cons tk5 <| .cons tk22 <| .cons tk32 <| .cons tk34 <| .cons tk73 <| .cons tk151 <| .cons tk280 <| .nil mixed
def B190 : SchT := [(2, [(0, some [4]), (1, some [0, 4]), (2, some [0, 1, 4]), (3, some [0, 1, 2, 4]), (4, none), (5, none), (6, some [0, 1, 2, 3, 4, 5]), (7, some [0, 1, 2, 3, 4, 5, 6, 8]), (8, some [0, 1, 2, 3, 4, 5, 6, 7, 9]), (9, some [0, 1, 2, 3, 4, 5, 6, 7, 8]), (10, some [0, 1, 2, 3, 4, 5, 6, 7, 8, 9])]), (4, [(0, some [4, 5]), (1, some [0, 4, 5]), (2, some [0, 1, 4, 5]), (4, some [0, 1, 2, 3, 5]), (3, some [0, 1, 2, 4, 5]), (5, none), (6, some [0, 1, 2, 3, 4, 5]), (7, none)]), (5, [(0, some [1, 2, 3, 4, 5, 6, 7, 8]), (1, some [0, 5, 6, 7]), (2, some [0, 1, 5, 6, 7]), (3, some [0, 1, 2, 5, 6, 7]), (5, some [0, 1, 2, 3, 4, 6, 7]), (4, some [0, 1, 2, 3, 5, 6, 7]), (6, none), (7, none), (8, none), (9, some [0, 1, 2, 3, 4, 5, 6, 7, 8]), (10, some [0, 1, 2, 3, 4, 5, 6, 7, 8, 9]), (11, none)])]
theorem B190_ok : regsO B190 Tryz.f190.body = true := by kernel_rfl
theorem F190_ok : FOk Tryz.prog 190 (FI.of Tryz.f190 T190 B190) := FOk.of Tryz.func190 rfl T190_ok B190_ok Tryz.call190
def T191 : Tab := [(2, ti2), (3, ti3), (4, ti4), (5, ti5), (29, ti29), (31, ti31), (42, ti42), (114, ti114), (116, ti116), (148, ti148), (193, ti193), (194, ti194), (195, ti195), (197, ti197), (222, ti222), (225, ti225), (247, ti247)]
theorem T191_ok : TabOk Tryz.prog T191 := .cons tk2 <| .cons tk3 <| .cons tk4 <| .cons tk5 <| .cons tk29 <| .cons tk31 <| .cons tk42 <| .cons tk114 <| .cons tk116 <| .cons tk148 <| .cons tk193 <| .cons tk194 <| .cons tk195 <| .cons tk197 <| .cons tk222 <| .cons tk225 <| .cons tk247 <| .nil mixed
def B191 : SchT := []
theorem B191_ok : regsO B191 Tryz.f191.body = true := by kernel_rfl
theorem F191_ok : FOk Tryz.prog 191 (FI.of Tryz.f191 T191 B191) := FOk.of Tryz.func191 rfl T191_ok B191_ok Tryz.call191
def T193 : Tab := [(3, ti3), (30, ti30), (94, ti94)]
theorem T193_ok : TabOk Tryz.prog T193 := .cons tk3 <| .cons tk30 <| .cons tk94 <| .nil mixed
def B193 : SchT := []
theorem B193_ok : regsO B193 Tryz.f193.body = true := by kernel_rfl
theorem F193_ok : FOk Tryz.prog 193 (FI.of Tryz.f193 T193 B193) := FOk.of Tryz.func193 rfl T193_ok B193_ok Tryz.call193
def T194 : Tab := [(3, ti3), (5, ti5), (23, ti23)]
theorem T194_ok : TabOk Tryz.prog T194 := .cons tk3 <| .cons tk5 <| .cons tk23 <| .nil mixed
def B194 : SchT := [(1, [(0, some [1, 4, 5, 6, 7]), (1, some [0, 4, 5, 6, 7]), (2, some [0, 1, 4, 5, 6, 7]), (4, some [0, 1, 2, 3, 5]), (5, some [0, 1, 2, 3, 4]), (6, some [0, 1, 2, 3, 4, 5]), (3, some [0, 1, 2, 4, 5, 6, 7]), (7, none), (8, none)])]
theorem B194_ok : regsO B194 Tryz.f194.body = true := by kernel_rfl
theorem F194_ok : FOk Tryz.prog 194 (FI.of Tryz.f194 T194 B194) := FOk.of Tryz.func194 rfl T194_ok B194_ok Tryz.call194
def T195 : Tab := [(3, ti3), (170, ti170), (205, ti205)]
theorem T195_ok : TabOk Tryz.prog T195 := .cons tk3 <| .cons tk170 <| .cons tk205 <| .nil mixed
def B195 : SchT := [(4, [(0, some [1]), (1, some [0]), (2, some [0, 1]), (3, some [0, 1, 2]), (4, some [0, 1, 2, 3, 5, 6, 7, 8, 9, 10, 11, 12, 13]), (5, some [0, 1, 2, 3, 4, 6, 9, 10, 11, 12, 13]), (6, some [0, 1, 2, 3, 4, 5, 9, 10, 11, 12, 13]), (7, some [0, 1, 2, 3, 4, 5, 6, 9, 10, 11, 12, 13]), (9, some [0, 1, 2, 3, 4, 5, 6, 7, 8, 10, 11]), (10, some [0, 1, 2, 3, 4, 5, 6, 7, 8, 9]), (11, some [0, 1, 2, 3, 4, 5, 6, 7, 8, 9, 10]), (12, some [0, 1, 2, 3, 4, 5, 6, 7, 8, 9, 10, 11]), (8, some [0, 1, 2, 3, 4, 5, 6, 7, 9, 10, 11, 12, 13]), (13, none), (14, none), (15, some [0, 1, 2, 3, 4, 5, 6, 7, 8, 9, 10, 11, 12, 13, 14]), (16, some [0, 1, 2, 3, 4, 5, 6, 7, 8, 9, 10, 11, 12, 13, 14, 15])]), (6, [(0, some [1, 2, 3, 4, 5, 6, 7, 8, 9, 10, 11, 12, 13]), (1, some [0, 2, 3, 4, 5, 6, 7, 8, 9, 10, 11, 12, 13]), (2, some [0, 1, 3, 4, 5, 6, 7, 8, 9, 10, 11, 12, 13, 14, 15]), (3, some [0, 1, 2, 5, 6, 7, 8, 9, 10, 11, 12, 13, 14, 15]), (4, some [0, 1, 2, 3, 5, 6, 7, 8, 9, 10, 11, 12, 13, 14, 15]), (5, some [0, 1, 2, 3, 4, 6, 7, 10, 11, 12, 13]), (6, some [0, 1, 2, 3, 4, 5, 10, 11, 12, 13]), (7, some [0, 1, 2, 3, 4, 5, 6, 10, 11, 12, 13]), (8, some [0, 1, 2, 3, 4, 5, 6, 7, 10, 11, 12, 13]), (10, some [0, 1, 2, 3, 4, 5, 6, 7, 8, 9, 11]), (11, some [0, 1, 2, 3, 4, 5, 6, 7, 8, 9, 10]), (12, some [0, 1, 2, 3, 4, 5, 6, 7, 8, 9, 10, 11]), (9, some [0, 1, 2, 3, 4, 5, 6, 7, 8, 10, 11, 12, 13]), (13, none), (14, some [0, 1, 2, 3, 4, 5, 6, 7, 8, 9, 10, 11, 12, 13]), (15, none), (16, some [0, 1, 2, 3, 4, 5, 6, 7, 8, 9, 10, 11, 12, 13, 14, 15]), (17, none)])]
theorem B195_ok : regsO B195 Tryz.f195.body = true := by kernel_rfl
theorem F195_ok : FOk Tryz.prog 195 (FI.of Tryz.f195 T195 B195) := FOk.of Tryz.func195 rfl T195_ok B195_ok Tryz.call195
def T196 : Tab := [(3, ti3), (170, ti170), (205, ti205), (245, ti245)]
theorem T196_ok : TabOk Tryz.prog T196 := .cons tk3 <| .cons tk170 <| .cons tk205 <| .cons tk245 <| .nil mixed
def B196 : SchT := [(10, [(0, some [1, 2, 3, 4, 5, 6, 7, 8, 9, 10, 11, 12, 13, 14, 15]), (1, some [0, 2, 3, 4, 5, 6, 7, 8, 9, 10, 11, 12, 13, 14, 15]), (2, some [0, 1, 3, 4, 5, 6, 7, 8, 9, 10, 11, 12, 13, 14, 15, 16, 17]), (3, some [0, 1, 2, 4, 6, 7, 8, 9, 10, 11, 12, 13, 14, 15, 16, 17]), (4, some [0, 1, 2, 3, 6, 7, 8, 9, 10, 11, 12, 13, 14, 15, 16, 17]), (5, some [0, 1, 2, 3, 4, 6, 7, 8, 9, 10, 11, 12, 13, 14, 15, 16, 17]), (6, some [0, 1, 2, 3, 4, 5, 7, 8, 9, 12, 13, 14, 15]), (7, some [0, 1, 2, 3, 4, 5, 6, 8, 12, 13, 14, 15]), (8, some [0, 1, 2, 3, 4, 5, 6, 7, 12, 13, 14, 15]), (9, some [0, 1, 2, 3, 4, 5, 6, 7, 8, 12, 13, 14, 15]), (10, some [0, 1, 2, 3, 4, 5, 6, 7, 8, 9, 12, 13, 14, 15]), (12, some [0, 1, 2, 3, 4, 5, 6, 7, 8, 9, 10, 11, 13]), (13, some [0, 1, 2, 3, 4, 5, 6, 7, 8, 9, 10, 11, 12]), (14, some [0, 1, 2, 3, 4, 5, 6, 7, 8, 9, 10, 11, 12, 13]), (11, some [0, 1, 2, 3, 4, 5, 6, 7, 8, 9, 10, 12, 13, 14, 15]), (15, none), (16, some [0, 1, 2, 3, 4, 5, 6, 7, 8, 9, 10, 11, 12, 13, 14, 15]), (17, none), (18, some [0, 1, 2, 3, 4, 5, 6, 7, 8, 9, 10, 11, 12, 13, 14, 15, 16, 17]), (19, none)])]
theorem B196_ok : regsO B196 Tryz.f196.body = true := by kernel_rfl
theorem F196_ok : FOk Tryz.prog 196 (FI.of Tryz.f196 T196 B196) := FOk.of Tryz.func196 rfl T196_ok B196_ok Tryz.call196
def T197 : Tab := [(3, ti3), (168, ti168), (170, ti170), (205, ti205), (259, ti259)]
theorem T197_ok : TabOk Tryz.prog T197 := .cons tk3 <| .cons tk168 <| .cons tk170 <| .cons tk205 <| .cons tk259 <| .nil mixed
def B197 : SchT := [(10, [(0, some [1, 2, 3, 4, 5, 6, 7, 8, 9, 10, 11, 12, 13, 14, 15]), (1, some [0, 2, 3, 4, 5, 6, 7, 8, 9, 10, 11, 12, 13, 14, 15]), (2, some [0, 1, 3, 4, 5, 6, 7, 8, 9, 10, 11, 12, 13, 14, 15, 16, 17]), (3, some [0, 1, 2, 4, 6, 7, 8, 9, 10, 11, 12, 13, 14, 15, 16, 17]), (4, some [0, 1, 2, 3, 6, 7, 8, 9, 10, 11, 12, 13, 14, 15, 16, 17]), (5, some [0, 1, 2, 3, 4, 6, 7, 8, 9, 10, 11, 12, 13, 14, 15, 16, 17]), (6, some [0, 1, 2, 3, 4, 5, 7, 8, 9, 12, 13, 14, 15]), (7, some [0, 1, 2, 3, 4, 5, 6, 8, 12, 13, 14, 15]), (8, some [0, 1, 2, 3, 4, 5, 6, 7, 12, 13, 14, 15]), (9, some [0, 1, 2, 3, 4, 5, 6, 7, 8, 12, 13, 14, 15]), (10, some [0, 1, 2, 3, 4, 5, 6, 7, 8, 9, 12, 13, 14, 15]), (12, some [0, 1, 2, 3, 4, 5, 6, 7, 8, 9, 10, 11, 13]), (13, some [0, 1, 2, 3, 4, 5, 6, 7, 8, 9, 10, 11, 12]), (14, some [0, 1, 2, 3, 4, 5, 6, 7, 8, 9, 10, 11, 12, 13]), (11, some [0, 1, 2, 3, 4, 5, 6, 7, 8, 9, 10, 12, 13, 14, 15]), (15, none), (16, some [0, 1, 2, 3, 4, 5, 6, 7, 8, 9, 10, 11, 12, 13, 14, 15]), (17, none), (18, some [0, 1, 2, 3, 4, 5, 6, 7, 8, 9, 10, 11, 12, 13, 14, 15, 16, 17]), (19, none)])]
theorem B197_ok : regsO B197 Tryz.f197.body = true := by kernel_rfl
theorem F197_ok : FOk Tryz.prog 197 (FI.of Tryz.f197 T197 B197) := FOk.of Tryz.func197 rfl T197_ok B197_ok Tryz.call197
def T198 : Tab := [(3, ti3), (170, ti170), (205, ti205), (245, ti245), (262, ti262)]
theorem T198_ok : TabOk Tryz.prog T198 := .cons tk3 <| .cons tk170 <| .cons tk205 <| .cons tk245 <| .cons tk262 <| .nil mixed
def B198 : SchT := []
theorem B198_ok : regsO B198 Tryz.f198.body = true := by kernel_rfl
theorem F198_ok : FOk Tryz.prog 198 (FI.of Tryz.f198 T198 B198) := FOk.of Tryz.func198 rfl T198_ok B198_ok Tryz.call198
def T199 : Tab := [(3, ti3), (170, ti170), (205, ti205)]
theorem T199_ok : TabOk Tryz.prog T199 := .cons tk3 <| .cons tk170 <| .cons tk205 <| .nil mixed
def B199 : SchT := [(3, [(0, some [1, 2, 3, 4, 5, 6, 7, 8, 9, 10, 11]), (1, some [0, 2, 3, 4, 5, 6, 7, 8, 9, 10, 11]), (2, some [0, 1, 3, 4, 5, 6, 7, 8, 9, 10, 11, 12, 13]), (3, some [0, 1, 2, 4, 5, 6, 7, 8, 9, 10, 11, 12, 13]), (4, some [0, 1, 2, 3, 5, 8, 9, 10, 11]), (5, some [0, 1, 2, 3, 4, 8, 9, 10, 11]), (6, some [0, 1, 2, 3, 4, 5, 8, 9, 10, 11]), (8, some [0, 1, 2, 3, 4, 5, 6, 7, 9]), (9, some [0, 1, 2, 3, 4, 5, 6, 7, 8]), (10, some [0, 1, 2, 3, 4, 5, 6, 7, 8, 9]), (7, some [0, 1, 2, 3, 4, 5, 6, 8, 9, 10, 11]), (11, none), (12, some [0, 1, 2, 3, 4, 5, 6, 7, 8, 9, 10, 11]), (13, none), (14, some [0, 1, 2, 3, 4, 5, 6, 7, 8, 9, 10, 11, 12, 13]), (15, none)])]
theorem B199_ok : regsO B199 Tryz.f199.body = true := by kernel_rfl
theorem F199_ok : FOk Tryz.prog 199 (FI.of Tryz.f199 T199 B199) := FOk.of Tryz.func199 rfl T199_ok B199_ok Tryz.call199
def T200 : Tab := [(3, ti3), (4, ti4), (170, ti170), (205, ti205)]
theorem T200_ok : TabOk Tryz.prog T200 := .cons tk3 <| .cons tk4 <| .cons tk170 <| .cons tk205 <| .nil mixed
def B200 : SchT := [(5, [(0, some [1]), (1, some [0]), (2, some [0, 1]), (3, some [0, 1, 2]), (4, some [0, 1, 2, 3, 5, 6, 7, 8, 9, 10, 11, 12, 13]), (5, some [0, 1, 2, 3, 4, 6, 9, 10, 11, 12, 13]), (6, some [0, 1, 2, 3, 4, 5, 9, 10, 11, 12, 13]), (7, some [0, 1, 2, 3, 4, 5, 6, 9, 10, 11, 12, 13]), (9, some [0, 1, 2, 3, 4, 5, 6, 7, 8, 10, 11]), (10, some [0, 1, 2, 3, 4, 5, 6, 7, 8, 9]), (11, some [0, 1, 2, 3, 4, 5, 6, 7, 8, 9, 10]), (12, some [0, 1, 2, 3, 4, 5, 6, 7, 8, 9, 10, 11]), (8, some [0, 1, 2, 3, 4, 5, 6, 7, 9, 10, 11, 12, 13]), (13, none), (14, none), (15, some [0, 1, 2, 3, 4, 5, 6, 7, 8, 9, 10, 11, 12, 13, 14]), (16, some [0, 1, 2, 3, 4, 5, 6, 7, 8, 9, 10, 11, 12, 13, 14, 15]), (17, some [0, 1, 2, 3, 4, 5, 6, 7, 8, 9, 10, 11, 12, 13, 14, 15, 16])]), (11, [(0, some [1, 2, 3, 4, 5, 6, 7, 8, 9, 10, 11, 12, 13]), (1, some [0, 2, 3, 4, 5, 6, 7, 8, 9, 10, 11, 12, 13]), (2, some [0, 1, 3, 4, 5, 6, 7, 8, 9, 10, 11, 12, 13, 14, 15]), (3, some [0, 1, 2, 5, 6, 7, 8, 9, 10, 11, 12, 13, 14, 15]), (4, some [0, 1, 2, 3, 5, 6, 7, 8, 9, 10, 11, 12, 13, 14, 15]), (5, some [0, 1, 2, 3, 4, 6, 7, 10, 11, 12, 13]), (6, some [0, 1, 2, 3, 4, 5, 10, 11, 12, 13]), (7, some [0, 1, 2, 3, 4, 5, 6, 10, 11, 12, 13]), (8, some [0, 1, 2, 3, 4, 5, 6, 7, 10, 11, 12, 13]), (10, some [0, 1, 2, 3, 4, 5, 6, 7, 8, 9, 11]), (11, some [0, 1, 2, 3, 4, 5, 6, 7, 8, 9, 10]), (12, some [0, 1, 2, 3, 4, 5, 6, 7, 8, 9, 10, 11]), (9, some [0, 1, 2, 3, 4, 5, 6, 7, 8, 10, 11, 12, 13]), (13, none), (14, some [0, 1, 2, 3, 4, 5, 6, 7, 8, 9, 10, 11, 12, 13]), (15, none), (16, some [0, 1, 2, 3, 4, 5, 6, 7, 8, 9, 10, 11, 12, 13, 14, 15]), (17, none)]), (16, [(0, some [1, 2, 3, 4, 5, 6, 7, 8, 9]), (1, some [0, 2, 5, 6, 7, 8, 9]), (2, some [0, 1, 5, 6, 7, 8, 9]), (3, some [0, 1, 2, 5, 6, 7, 8, 9]), (5, some [0, 1, 2, 3, 4, 6, 7]), (6, some [0, 1, 2, 3, 4, 5]), (7, some [0, 1, 2, 3, 4, 5, 6]), (8, some [0, 1, 2, 3, 4, 5, 6, 7]), (4, some [0, 1, 2, 3, 5, 6, 7, 8, 9]), (9, none), (10, none), (11, some [0, 1, 2, 3, 4, 5, 6, 7, 8, 9, 10]), (12, some [0, 1, 2, 3, 4, 5, 6, 7, 8, 9, 10, 11])]), (17, [(0, some [1, 2, 3, 4, 5, 6, 7, 8, 9, 10, 11, 12, 13]), (1, some [0, 2, 3, 4, 5, 6, 7, 8, 9, 10, 11, 12, 13]), (2, some [0, 1, 3, 4, 5, 6, 7, 8, 9, 10, 11, 12, 13, 14, 15]), (3, some [0, 1, 2, 5, 6, 7, 8, 9, 10, 11, 12, 13, 14, 15]), (4, some [0, 1, 2, 3, 5, 6, 7, 8, 9, 10, 11, 12, 13, 14, 15]), (5, some [0, 1, 2, 3, 4, 6, 7, 10, 11, 12, 13]), (6, some [0, 1, 2, 3, 4, 5, 10, 11, 12, 13]), (7, some [0, 1, 2, 3, 4, 5, 6, 10, 11, 12, 13]), (8, some [0, 1, 2, 3, 4, 5, 6, 7, 10, 11, 12, 13]), (10, some [0, 1, 2, 3, 4, 5, 6, 7, 8, 9, 11]), (11, some [0, 1, 2, 3, 4, 5, 6, 7, 8, 9, 10]), (12, some [0, 1, 2, 3, 4, 5, 6, 7, 8, 9, 10, 11]), (9, some [0, 1, 2, 3, 4, 5, 6, 7, 8, 10, 11, 12, 13]), (13, none), (14, some [0, 1, 2, 3, 4, 5, 6, 7, 8, 9, 10, 11, 12, 13]), (15, none), (16, some [0, 1, 2, 3, 4, 5, 6, 7, 8, 9, 10, 11, 12, 13, 14, 15]), (17, none)]), (22, [(0, some [1, 2, 3, 4, 5, 6, 7, 8, 9]), (1, some [0, 2, 5, 6, 7, 8, 9]), (2, some [0, 1, 5, 6, 7, 8, 9]), (3, some [0, 1, 2, 5, 6, 7, 8, 9]), (5, some [0, 1, 2, 3, 4, 6, 7]), (6, some [0, 1, 2, 3, 4, 5]), (7, some [0, 1, 2, 3, 4, 5, 6]), (8, some [0, 1, 2, 3, 4, 5, 6, 7]), (4, some [0, 1, 2, 3, 5, 6, 7, 8, 9]), (9, none), (10, none), (11, some [0, 1, 2, 3, 4, 5, 6, 7, 8, 9, 10]), (12, some [0, 1, 2, 3, 4, 5, 6, 7, 8, 9, 10, 11])]), (23, [(0, some [1, 2, 3, 4, 5, 6, 7, 8, 9, 10, 11, 12, 13]), (1, some [0, 2, 3, 4, 5, 6, 7, 8, 9, 10, 11, 12, 13]), (2, some [0, 1, 3, 4, 5, 6, 7, 8, 9, 10, 11, 12, 13, 14, 15]), (3, some [0, 1, 2, 5, 6, 7, 8, 9, 10, 11, 12, 13, 14, 15]), (4, some [0, 1, 2, 3, 5, 6, 7, 8, 9, 10, 11, 12, 13, 14, 15]), (5, some [0, 1, 2, 3, 4, 6, 7, 10, 11, 12, 13]), (6, some [0, 1, 2, 3, 4, 5, 10, 11, 12, 13]), (7, some [0, 1, 2, 3, 4, 5, 6, 10, 11, 12, 13]), (8, some [0, 1, 2, 3, 4, 5, 6, 7, 10, 11, 12, 13]), (10, some [0, 1, 2, 3, 4, 5, 6, 7, 8, 9, 11]), (11, some [0, 1, 2, 3, 4, 5, 6, 7, 8, 9, 10]), (12, some [0, 1, 2, 3, 4, 5, 6, 7, 8, 9, 10, 11]), (9, some [0, 1, 2, 3, 4, 5, 6, 7, 8, 10, 11, 12, 13]), (13, none), (14, some [0, 1, 2, 3, 4, 5, 6, 7, 8, 9, 10, 11, 12, 13]), (15, none), (16, some [0, 1, 2, 3, 4, 5, 6, 7, 8, 9, 10, 11, 12, 13, 14, 15]), (17, none)])]
theorem B200_ok : regsO B200 Tryz.f200.body = true := by kernel_rfl
theorem F200_ok : FOk Tryz.prog 200 (FI.of Tryz.f200 T200 B200) := FOk.of Tryz.func200 rfl T200_ok B200_ok Tryz.call200
def T201 : Tab := [(3, ti3), (4, ti4), (170, ti170), (205, ti205)]
theorem T201_ok : TabOk Tryz.prog T201 := .cons tk3 <| .cons tk4 <| .cons tk170 <| .cons tk205 <| .nil mixed
def B201 : SchT := [(1, [(0, some [1, 2, 3, 4, 5, 6, 7, 8, 9, 10, 11]), (1, some [0, 2, 3, 4, 5, 6, 7, 8, 9, 10, 11]), (2, some [0, 1, 3, 4, 5, 6, 7, 8, 9, 10, 11, 12, 13]), (3, some [0, 1, 2, 4, 5, 6, 7, 8, 9, 10, 11, 12, 13]), (4, some [0, 1, 2, 3, 5, 8, 9, 10, 11]), (5, some [0, 1, 2, 3, 4, 8, 9, 10, 11]), (6, some [0, 1, 2, 3, 4, 5, 8, 9, 10, 11]), (8, some [0, 1, 2, 3, 4, 5, 6, 7, 9]), (9, some [0, 1, 2, 3, 4, 5, 6, 7, 8]), (10, some [0, 1, 2, 3, 4, 5, 6, 7, 8, 9]), (7, some [0, 1, 2, 3, 4, 5, 6, 8, 9, 10, 11]), (11, none), (12, some [0, 1, 2, 3, 4, 5, 6, 7, 8, 9, 10, 11]), (13, none), (14, some [0, 1, 2, 3, 4, 5, 6, 7, 8, 9, 10, 11, 12, 13]), (15, none)]), (3, [(0, some [1]), (1, some [0]), (2, some [0, 1]), (3, some [0, 1, 2]), (4, some [0, 1, 2, 3, 5, 6, 7, 8, 9, 10, 11, 12]), (5, some [0, 1, 2, 3, 4, 6, 9, 10, 11, 12]), (6, some [0, 1, 2, 3, 4, 5, 9, 10, 11, 12]), (7, some [0, 1, 2, 3, 4, 5, 6, 9, 10, 11, 12]), (9, some [0, 1, 2, 3, 4, 5, 6, 7, 8, 10]), (10, some [0, 1, 2, 3, 4, 5, 6, 7, 8, 9]), (11, some [0, 1, 2, 3, 4, 5, 6, 7, 8, 9, 10]), (8, some [0, 1, 2, 3, 4, 5, 6, 7, 9, 10, 11, 12]), (12, none), (13, none), (14, some [0, 1, 2, 3, 4, 5, 6, 7, 8, 9, 10, 11, 12, 13]), (15, some [0, 1, 2, 3, 4, 5, 6, 7, 8, 9, 10, 11, 12, 13, 14]), (16, some [0, 1, 2, 3, 4, 5, 6, 7, 8, 9, 10, 11, 12, 13, 14, 15])]), (5, [(0, some [1]), (1, some [0]), (2, some [0, 1]), (3, some [0, 1, 2]), (4, some [0, 1, 2, 3, 5, 6, 7, 8, 9, 10, 11, 12]), (5, some [0, 1, 2, 3, 4, 6, 9, 10, 11, 12]), (6, some [0, 1, 2, 3, 4, 5, 9, 10, 11, 12]), (7, some [0, 1, 2, 3, 4, 5, 6, 9, 10, 11, 12]), (9, some [0, 1, 2, 3, 4, 5, 6, 7, 8, 10]), (10, some [0, 1, 2, 3, 4, 5, 6, 7, 8, 9]), (11, some [0, 1, 2, 3, 4, 5, 6, 7, 8, 9, 10]), (8, some [0, 1, 2, 3, 4, 5, 6, 7, 9, 10, 11, 12]), (12, none), (13, none), (14, some [0, 1, 2, 3, 4, 5, 6, 7, 8, 9, 10, 11, 12, 13]), (15, some [0, 1, 2, 3, 4, 5, 6, 7, 8, 9, 10, 11, 12, 13, 14])]), (8, [(0, some [1, 2, 3, 4, 5, 6, 7, 8, 9, 10, 11]), (1, some [0, 2, 3, 4, 5, 6, 7, 8, 9, 10, 11]), (2, some [0, 1, 3, 4, 5, 6, 7, 8, 9, 10, 11, 12, 13]), (3, some [0, 1, 2, 4, 5, 6, 7, 8, 9, 10, 11, 12, 13]), (4, some [0, 1, 2, 3, 5, 8, 9, 10, 11]), (5, some [0, 1, 2, 3, 4, 8, 9, 10, 11]), (6, some [0, 1, 2, 3, 4, 5, 8, 9, 10, 11]), (8, some [0, 1, 2, 3, 4, 5, 6, 7, 9]), (9, some [0, 1, 2, 3, 4, 5, 6, 7, 8]), (10, some [0, 1, 2, 3, 4, 5, 6, 7, 8, 9]), (7, some [0, 1, 2, 3, 4, 5, 6, 8, 9, 10, 11]), (11, none), (12, some [0, 1, 2, 3, 4, 5, 6, 7, 8, 9, 10, 11]), (13, none), (14, some [0, 1, 2, 3, 4, 5, 6, 7, 8, 9, 10, 11, 12, 13]), (15, none)])]
theorem B201_ok : regsO B201 Tryz.f201.body = true := by kernel_rfl
theorem F201_ok : FOk Tryz.prog 201 (FI.of Tryz.f201 T201 B201) := FOk.of Tryz.func201 rfl T201_ok B201_ok Tryz.call201
def T202 : Tab := [(3, ti3), (4, ti4), (170, ti170), (205, ti205)]
theorem T202_ok : TabOk Tryz.prog T202 := .cons tk3 <| .cons tk4 <| .cons tk170 <| .cons tk205 <| .nil mixed
def B202 : SchT := [(1, [(0, some [1, 2, 3, 4, 5, 6, 7, 8, 9, 10, 11]), (1, some [0, 2, 3, 4, 5, 6, 7, 8, 9, 10, 11]), (2, some [0, 1, 3, 4, 5, 6, 7, 8, 9, 10, 11, 12, 13]), (3, some [0, 1, 2, 4, 5, 6, 7, 8, 9, 10, 11, 12, 13]), (4, some [0, 1, 2, 3, 5, 8, 9, 10, 11]), (5, some [0, 1, 2, 3, 4, 8, 9, 10, 11]), (6, some [0, 1, 2, 3, 4, 5, 8, 9, 10, 11]), (8, some [0, 1, 2, 3, 4, 5, 6, 7, 9]), (9, some [0, 1, 2, 3, 4, 5, 6, 7, 8]), (10, some [0, 1, 2, 3, 4, 5, 6, 7, 8, 9]), (7, some [0, 1, 2, 3, 4, 5, 6, 8, 9, 10, 11]), (11, none), (12, some [0, 1, 2, 3, 4, 5, 6, 7, 8, 9, 10, 11]), (13, none), (14, some [0, 1, 2, 3, 4, 5, 6, 7, 8, 9, 10, 11, 12, 13]), (15, none)]), (3, [(0, some [1]), (1, some [0]), (2, some [0, 1]), (3, some [0, 1, 2]), (4, some [0, 1, 2, 3, 5, 6, 7, 8, 9, 10, 11, 12]), (5, some [0, 1, 2, 3, 4, 6, 9, 10, 11, 12]), (6, some [0, 1, 2, 3, 4, 5, 9, 10, 11, 12]), (7, some [0, 1, 2, 3, 4, 5, 6, 9, 10, 11, 12]), (9, some [0, 1, 2, 3, 4, 5, 6, 7, 8, 10]), (10, some [0, 1, 2, 3, 4, 5, 6, 7, 8, 9]), (11, some [0, 1, 2, 3, 4, 5, 6, 7, 8, 9, 10]), (8, some [0, 1, 2, 3, 4, 5, 6, 7, 9, 10, 11, 12]), (12, none), (13, none), (14, some [0, 1, 2, 3, 4, 5, 6, 7, 8, 9, 10, 11, 12, 13]), (15, some [0, 1, 2, 3, 4, 5, 6, 7, 8, 9, 10, 11, 12, 13, 14])]), (5, [(0, some [1]), (1, some [0]), (2, some [0, 1]), (3, some [0, 1, 2]), (4, some [0, 1, 2, 3, 5, 6, 7, 8, 9, 10, 11, 12]), (5, some [0, 1, 2, 3, 4, 6, 9, 10, 11, 12]), (6, some [0, 1, 2, 3, 4, 5, 9, 10, 11, 12]), (7, some [0, 1, 2, 3, 4, 5, 6, 9, 10, 11, 12]), (9, some [0, 1, 2, 3, 4, 5, 6, 7, 8, 10]), (10, some [0, 1, 2, 3, 4, 5, 6, 7, 8, 9]), (11, some [0, 1, 2, 3, 4, 5, 6, 7, 8, 9, 10]), (8, some [0, 1, 2, 3, 4, 5, 6, 7, 9, 10, 11, 12]), (12, none), (13, none), (14, some [0, 1, 2, 3, 4, 5, 6, 7, 8, 9, 10, 11, 12, 13]), (15, some [0, 1, 2, 3, 4, 5, 6, 7, 8, 9, 10, 11, 12, 13, 14]), (16, some [0, 1, 2, 3, 4, 5, 6, 7, 8, 9, 10, 11, 12, 13, 14, 15])]), (8, [(0, some [1, 2, 3, 4, 5, 6, 7, 8, 9, 10, 11]), (1, some [0, 2, 3, 4, 5, 6, 7, 8, 9, 10, 11]), (2, some [0, 1, 3, 4, 5, 6, 7, 8, 9, 10, 11, 12, 13]), (3, some [0, 1, 2, 4, 5, 6, 7, 8, 9, 10, 11, 12, 13]), (4, some [0, 1, 2, 3, 5, 8, 9, 10, 11]), (5, some [0, 1, 2, 3, 4, 8, 9, 10, 11]), (6, some [0, 1, 2, 3, 4, 5, 8, 9, 10, 11]), (8, some [0, 1, 2, 3, 4, 5, 6, 7, 9]), (9, some [0, 1, 2, 3, 4, 5, 6, 7, 8]), (10, some [0, 1, 2, 3, 4, 5, 6, 7, 8, 9]), (7, some [0, 1, 2, 3, 4, 5, 6, 8, 9, 10, 11]), (11, none), (12, some [0, 1, 2, 3, 4, 5, 6, 7, 8, 9, 10, 11]), (13, none), (14, some [0, 1, 2, 3, 4, 5, 6, 7, 8, 9, 10, 11, 12, 13]), (15, none)]), (10, [(0, some [1, 2, 3, 4, 5, 6, 7, 8, 9, 10, 11]), (1, some [0, 2, 3, 4, 5, 6, 7, 8, 9, 10, 11]), (2, some [0, 1, 3, 4, 5, 6, 7, 8, 9, 10, 11, 12, 13]), (3, some [0, 1, 2, 4, 5, 6, 7, 8, 9, 10, 11, 12, 13]), (4, some [0, 1, 2, 3, 5, 8, 9, 10, 11]), (5, some [0, 1, 2, 3, 4, 8, 9, 10, 11]), (6, some [0, 1, 2, 3, 4, 5, 8, 9, 10, 11]), (8, some [0, 1, 2, 3, 4, 5, 6, 7, 9]), (9, some [0, 1, 2, 3, 4, 5, 6, 7, 8]), (10, some [0, 1, 2, 3, 4, 5, 6, 7, 8, 9]), (7, some [0, 1, 2, 3, 4, 5, 6, 8, 9, 10, 11]), (11, none), (12, some [0, 1, 2, 3, 4, 5, 6, 7, 8, 9, 10, 11]), (13, none), (14, some [0, 1, 2, 3, 4, 5, 6, 7, 8, 9, 10, 11, 12, 13]), (15, none)]), (13, [(0, some [1]), (1, some [0]), (2, some [0, 1]), (3, some [0, 1, 2]), (4, some [0, 1, 2, 3, 5, 6, 7, 8, 9, 10, 11, 12]), (5, some [0, 1, 2, 3, 4, 6, 9, 10, 11, 12]), (6, some [0, 1, 2, 3, 4, 5, 9, 10, 11, 12]), (7, some [0, 1, 2, 3, 4, 5, 6, 9, 10, 11, 12]), (9, some [0, 1, 2, 3, 4, 5, 6, 7, 8, 10]), (10, some [0, 1, 2, 3, 4, 5, 6, 7, 8, 9]), (11, some [0, 1, 2, 3, 4, 5, 6, 7, 8, 9, 10]), (8, some [0, 1, 2, 3, 4, 5, 6, 7, 9, 10, 11, 12]), (12, none), (13, none), (14, some [0, 1, 2, 3, 4, 5, 6, 7, 8, 9, 10, 11, 12, 13]), (15, some [0, 1, 2, 3, 4, 5, 6, 7, 8, 9, 10, 11, 12, 13, 14])]), (15, [(0, some [1]), (1, some [0]), (2, some [0, 1]), (3, some [0, 1, 2]), (4, some [0, 1, 2, 3, 5, 6, 7, 8, 9, 10, 11, 12]), (5, some [0, 1, 2, 3, 4, 6, 9, 10, 11, 12]), (6, some [0, 1, 2, 3, 4, 5, 9, 10, 11, 12]), (7, some [0, 1, 2, 3, 4, 5, 6, 9, 10, 11, 12]), (9, some [0, 1, 2, 3, 4, 5, 6, 7, 8, 10]), (10, some [0, 1, 2, 3, 4, 5, 6, 7, 8, 9]), (11, some [0, 1, 2, 3, 4, 5, 6, 7, 8, 9, 10]), (8, some [0, 1, 2, 3, 4, 5, 6, 7, 9, 10, 11, 12]), (12, none), (13, none), (14, some [0, 1, 2, 3, 4, 5, 6, 7, 8, 9, 10, 11, 12, 13]), (15, some [0, 1, 2, 3, 4, 5, 6, 7, 8, 9, 10, 11, 12, 13, 14]), (16, some [0, 1, 2, 3, 4, 5, 6, 7, 8, 9, 10, 11, 12, 13, 14, 15])]), (18, [(0, some [1, 2, 3, 4, 5, 6, 7, 8, 9, 10, 11]), (1, some [0, 2, 3, 4, 5, 6, 7, 8, 9, 10, 11]), (2, some [0, 1, 3, 4, 5, 6, 7, 8, 9, 10, 11, 12, 13]), (3, some [0, 1, 2, 4, 5, 6, 7, 8, 9, 10, 11, 12, 13]), (4, some [0, 1, 2, 3, 5, 8, 9, 10, 11]), (5, some [0, 1, 2, 3, 4, 8, 9, 10, 11]), (6, some [0, 1, 2, 3, 4, 5, 8, 9, 10, 11]), (8, some [0, 1, 2, 3, 4, 5, 6, 7, 9]), (9, some [0, 1, 2, 3, 4, 5, 6, 7, 8]), (10, some [0, 1, 2, 3, 4, 5, 6, 7, 8, 9]), (7, some [0, 1, 2, 3, 4, 5, 6, 8, 9, 10, 11]), (11, none), (12, some [0, 1, 2, 3, 4, 5, 6, 7, 8, 9, 10, 11]), (13, none), (14, some [0, 1, 2, 3, 4, 5, 6, 7, 8, 9, 10, 11, 12, 13]), (15, none)]), (21, [(0, some [1, 2, 3, 4, 5, 6, 7, 8, 9, 10, 11]), (1, some [0, 2, 3, 4, 5, 6, 7, 8, 9, 10, 11]), (2, some [0, 1, 3, 4, 5, 6, 7, 8, 9, 10, 11, 12, 13]), (3, some [0, 1, 2, 4, 5, 6, 7, 8, 9, 10, 11, 12, 13]), (4, some [0, 1, 2, 3, 5, 8, 9, 10, 11]), (5, some [0, 1, 2, 3, 4, 8, 9, 10, 11]), (6, some [0, 1, 2, 3, 4, 5, 8, 9, 10, 11]), (8, some [0, 1, 2, 3, 4, 5, 6, 7, 9]), (9, some [0, 1, 2, 3, 4, 5, 6, 7, 8]), (10, some [0, 1, 2, 3, 4, 5, 6, 7, 8, 9]), (7, some [0, 1, 2, 3, 4, 5, 6, 8, 9, 10, 11]), (11, none), (12, some [0, 1, 2, 3, 4, 5, 6, 7, 8, 9, 10, 11]), (13, none), (14, some [0, 1, 2, 3, 4, 5, 6, 7, 8, 9, 10, 11, 12, 13]), (15, none)])]
theorem B202_ok : regsO B202 Tryz.f202.body = true := by kernel_rfl
theorem F202_ok : FOk Tryz.prog 202 (FI.of Tryz.f202 T202 B202) := FOk.of Tryz.func202 rfl T202_ok B202_ok Tryz.call202
def T203 : Tab := [(5, ti5), (22, ti22), (151, ti151)]
theorem T203_ok : TabOk Tryz.prog T203 := .cons tk5 <| .cons tk22 <| .cons tk151 <| .nil mixed
def B203 : SchT := []
theorem B203_ok : regsO B203 Tryz.f203.body = true := by kernel_rfl
theorem F203_ok : FOk Tryz.prog 203 (FI.of Tryz.f203 T203 B203) := FOk.of Tryz.func203 rfl T203_ok B203_ok Tryz.call203
def T204 : Tab := [(3, ti3), (32, ti32), (151, ti151), (168, ti168)]
theorem T204_ok : TabOk Tryz.prog T204 := .cons tk3 <| .cons tk32 <| .cons tk151 <| .cons tk168 <| .nil mixed
def B204 : SchT := [(5, [(0, some [1, 2, 3, 4, 5]), (1, some [0, 2, 5]), (2, some [0, 1, 5]), (3, some [0, 1, 2, 5]), (4, some [0, 1, 2, 3, 5]), (5, none), (6, none), (7, some [0, 1, 2, 3, 4, 5, 6])]), (8, [(0, some [1, 2, 3, 4, 5, 6, 7, 8, 9, 10, 11, 12, 13]), (1, some [0, 2]), (2, some [0, 1]), (3, some [0, 1, 2]), (4, some [0, 1, 2, 3]), (5, some [0, 1, 2, 3, 4, 6, 7, 8, 9, 10]), (6, some [0, 1, 2, 3, 4, 5, 7, 10]), (7, some [0, 1, 2, 3, 4, 5, 6, 10]), (8, some [0, 1, 2, 3, 4, 5, 6, 7, 10]), (9, some [0, 1, 2, 3, 4, 5, 6, 7, 8, 10]), (10, none), (11, none), (12, some [0, 1, 2, 3, 4, 5, 6, 7, 8, 9, 10, 11, 14]), (13, some [0, 1, 2, 3, 4, 5, 6, 7, 8, 9, 10, 11, 12, 14]), (14, some [0, 1, 2, 3, 4, 5, 6, 7, 8, 9, 10, 11, 12, 13]), (15, some [0, 1, 2, 3, 4, 5, 6, 7, 8, 9, 10, 11, 12, 13, 14])])]
theorem B204_ok : regsO B204 Tryz.f204.body = true := by kernel_rfl
theorem F204_ok : FOk Tryz.prog 204 (FI.of Tryz.f204 T204 B204) := FOk.of Tryz.func204 rfl T204_ok B204_ok Tryz.call204
def T205 : Tab := [(3, ti3), (5, ti5), (151, ti151)]
theorem T205_ok : TabOk Tryz.prog T205 := .cons tk3 <| .cons tk5 <| .cons tk151 <| .nil mixed
def B205 : SchT := []
theorem B205_ok : regsO B205 Tryz.f205.body = true := by kernel_rfl
theorem F205_ok : FOk Tryz.prog 205 (FI.of Tryz.f205 T205 B205) := FOk.of Tryz.func205 rfl T205_ok B205_ok Tryz.call205
def T206 : Tab := [(3, ti3), (4, ti4), (32, ti32), (151, ti151)]
theorem T206_ok : TabOk Tryz.prog T206 := .cons tk3 <| .cons tk4 <| .cons tk32 <| .cons tk151 <| .nil mixed
def B206 : SchT := [(11, [(0, some [1, 2, 3, 5, 6, 7]), (1, some [0, 2, 5, 6, 7]), (2, some [0, 1, 5, 6, 7]), (3, some [0, 1, 2, 5, 6, 7]), (4, some [0, 1, 2, 3, 5, 6, 7]), (5, some [0, 1, 2, 3, 4, 6]), (6, some [0, 1, 2, 3, 4, 5]), (7, some [0, 1, 2, 3, 4, 5, 6]), (8, none)]), (15, [(0, some [1, 2, 3, 5, 6, 7]), (1, some [0, 2, 5, 6, 7]), (2, some [0, 1, 5, 6, 7]), (3, some [0, 1, 2, 5, 6, 7]), (4, some [0, 1, 2, 3, 5, 6, 7]), (5, some [0, 1, 2, 3, 4, 6]), (6, some [0, 1, 2, 3, 4, 5]), (7, some [0, 1, 2, 3, 4, 5, 6]), (8, none)])]
theorem B206_ok : regsO B206 Tryz.f206.body = true := by kernel_rfl
theorem F206_ok : FOk Tryz.prog 206 (FI.of Tryz.f206 T206 B206) := FOk.of Tryz.func206 rfl T206_ok B206_ok Tryz.call206
def T207 : Tab := [(2, ti2), (3, ti3), (4, ti4), (29, ti29), (114, ti114), (116, ti116), (197, ti197), (199, ti199)]
theorem T207_ok : TabOk Tryz.prog T207 := .cons tk2 <| .cons tk3 <| .cons tk4 <| .cons tk29 <| .cons tk114 <| .cons tk116 <| .cons tk197 <| .cons tk199 <| .nil mixed
def B207 : SchT := []
theorem B207_ok : regsO B207 Tryz.f207.body = true := by kernel_rfl
theorem F207_ok : FOk Tryz.prog 207 (FI.of Tryz.f207 T207 B207) := FOk.of Tryz.func207 rfl T207_ok B207_ok Tryz.call207
def T208 : Tab := [(2, ti2), (3, ti3), (4, ti4), (5, ti5), (29, ti29), (193, ti193), (247, ti247), (289, ti289)]
theorem T208_ok : TabOk Tryz.prog T208 := .cons tk2 <| .cons tk3 <| .cons tk4 <| .cons tk5 <| .cons tk29 <| .cons tk193 <| .cons tk247 <| .cons tk289 <| .nil mixed
def B208 : SchT := [(11, [(0, some [2, 3, 4, 5, 6, 7, 8]), (2, some [0, 1, 5, 6, 7, 8]), (3, some [0, 1, 2, 5, 6, 7, 8]), (5, some [0, 1, 2, 3, 4]), (6, some [0, 1, 2, 3, 4, 5]), (7, some [0, 1, 2, 3, 4, 5, 6]), (1, some [0, 2, 3, 4, 5, 6, 7, 8]), (4, some [0, 1, 2, 3, 5, 6, 7, 8]), (8, none), (9, none), (10, some [0, 1, 2, 3, 4, 5, 6, 7, 8, 9]), (11, some [0, 1, 2, 3, 4, 5, 6, 7, 8, 9, 10, 12]), (12, some [0, 1, 2, 3, 4, 5, 6, 7, 8, 9, 10, 11, 13]), (13, some [0, 1, 2, 3, 4, 5, 6, 7, 8, 9, 10, 11, 12]), (14, some [0, 1, 2, 3, 4, 5, 6, 7, 8, 9, 10, 11, 12, 13])])]
theorem B208_ok : regsO B208 Tryz.f208.body = true := by kernel_rfl
theorem F208_ok : FOk Tryz.prog 208 (FI.of Tryz.f208 T208 B208) := FOk.of Tryz.func208 rfl T208_ok B208_ok Tryz.call208
def T209 : Tab := [(30, ti30), (94, ti94)]
theorem T209_ok : TabOk Tryz.prog T209 := .cons tk30 <| .cons tk94 <| .nil mixed
def B209 : SchT := []
theorem B209_ok : regsO B209 Tryz.f209.body = true := by kernel_rfl
theorem F209_ok : FOk Tryz.prog 209 (FI.of Tryz.f209 T209 B209) := FOk.of Tryz.func209 rfl T209_ok B209_ok Tryz.call209
def T210 : Tab := [(3, ti3), (4, ti4), (170, ti170), (205, ti205)]
theorem T210_ok : TabOk Tryz.prog T210 := .cons tk3 <| .cons tk4 <| .cons tk170 <| .cons tk205 <| .nil mixed
def B210 : SchT := [(3, [(0, some [2]), (1, some [0, 2]), (2, some [0, 1]), (3, some [0, 1, 2]), (4, some [0, 1, 2, 3]), (5, some [0, 1, 2, 3, 4, 6, 7, 8, 9, 10, 11, 12, 13, 14, 15, 16, 17, 18]), (6, some [0, 1, 2, 3, 4, 5, 7, 8, 9, 12, 13, 14, 15, 16, 17, 18]), (7, some [0, 1, 2, 3, 4, 5, 6, 8, 12, 13, 14, 15, 16, 17, 18]), (8, some [0, 1, 2, 3, 4, 5, 6, 7, 12, 13, 14, 15, 16, 17, 18]), (9, some [0, 1, 2, 3, 4, 5, 6, 7, 8, 12, 13, 14, 15, 16, 17, 18]), (10, some [0, 1, 2, 3, 4, 5, 6, 7, 8, 9, 12, 13, 14, 15, 16, 17, 18]), (12, some [0, 1, 2, 3, 4, 5, 6, 7, 8, 9, 10, 11, 13, 14, 15, 16]), (13, some [0, 1, 2, 3, 4, 5, 6, 7, 8, 9, 10, 11, 12, 14]), (14, some [0, 1, 2, 3, 4, 5, 6, 7, 8, 9, 10, 11, 12, 13]), (15, some [0, 1, 2, 3, 4, 5, 6, 7, 8, 9, 10, 11, 12, 13, 14]), (16, some [0, 1, 2, 3, 4, 5, 6, 7, 8, 9, 10, 11, 12, 13, 14, 15]), (17, some [0, 1, 2, 3, 4, 5, 6, 7, 8, 9, 10, 11, 12, 13, 14, 15, 16]), (11, some [0, 1, 2, 3, 4, 5, 6, 7, 8, 9, 10, 12, 13, 14, 15, 16, 17, 18]), (18, none), (19, none), (20, some [0, 1, 2, 3, 4, 5, 6, 7, 8, 9, 10, 11, 12, 13, 14, 15, 16, 17, 18, 19]), (21, some [0, 1, 2, 3, 4, 5, 6, 7, 8, 9, 10, 11, 12, 13, 14, 15, 16, 17, 18, 19, 20])]), (5, [(0, some [1, 2, 3, 4, 5, 6, 7, 8, 9, 10, 11, 12]), (1, some [0, 2, 3, 4, 7, 8, 9, 10, 11, 12]), (2, some [0, 1, 3, 7, 8, 9, 10, 11, 12]), (3, some [0, 1, 2, 7, 8, 9, 10, 11, 12]), (4, some [0, 1, 2, 3, 7, 8, 9, 10, 11, 12]), (5, some [0, 1, 2, 3, 4, 7, 8, 9, 10, 11, 12]), (7, some [0, 1, 2, 3, 4, 5, 6, 8, 9, 10]), (8, some [0, 1, 2, 3, 4, 5, 6, 7, 9]), (9, some [0, 1, 2, 3, 4, 5, 6, 7, 8]), (10, some [0, 1, 2, 3, 4, 5, 6, 7, 8, 9]), (11, some [0, 1, 2, 3, 4, 5, 6, 7, 8, 9, 10]), (6, some [0, 1, 2, 3, 4, 5, 7, 8, 9, 10, 11, 12]), (12, none), (13, none), (14, some [0, 1, 2, 3, 4, 5, 6, 7, 8, 9, 10, 11, 12, 13]), (15, some [0, 1, 2, 3, 4, 5, 6, 7, 8, 9, 10, 11, 12, 13, 14])]), (6, [(0, some [1, 2, 3, 4, 5, 6, 7, 8, 9, 10, 11, 12, 13, 14, 15, 16, 17, 18, 19]), (1, some [0, 2, 4, 5, 6, 7, 8, 9, 10, 11, 12, 13, 14, 15, 16, 17, 18, 19]), (2, some [0, 1, 4, 5, 6, 7, 8, 9, 10, 11, 12, 13, 14, 15, 16, 17, 18, 19]), (3, some [0, 1, 2, 4, 5, 6, 7, 8, 9, 10, 11, 12, 13, 14, 15, 16, 17, 18, 19]), (4, some [0, 1, 2, 3, 5, 6, 7, 8, 9, 10, 11, 12, 13, 14, 15, 16, 17, 18, 19, 20, 21]), (5, some [0, 1, 2, 3, 4, 6, 8, 9, 10, 11, 12, 13, 14, 15, 16, 17, 18, 19, 20, 21]), (6, some [0, 1, 2, 3, 4, 5, 8, 9, 10, 11, 12, 13, 14, 15, 16, 17, 18, 19, 20, 21]), (7, some [0, 1, 2, 3, 4, 5, 6, 8, 9, 10, 11, 12, 13, 14, 15, 16, 17, 18, 19, 20, 21]), (8, some [0, 1, 2, 3, 4, 5, 6, 7, 9, 10, 11, 14, 15, 16, 17, 18, 19]), (9, some [0, 1, 2, 3, 4, 5, 6, 7, 8, 10, 14, 15, 16, 17, 18, 19]), (10, some [0, 1, 2, 3, 4, 5, 6, 7, 8, 9, 14, 15, 16, 17, 18, 19]), (11, some [0, 1, 2, 3, 4, 5, 6, 7, 8, 9, 10, 14, 15, 16, 17, 18, 19]), (12, some [0, 1, 2, 3, 4, 5, 6, 7, 8, 9, 10, 11, 14, 15, 16, 17, 18, 19]), (14, some [0, 1, 2, 3, 4, 5, 6, 7, 8, 9, 10, 11, 12, 13, 15, 16, 17]), (15, some [0, 1, 2, 3, 4, 5, 6, 7, 8, 9, 10, 11, 12, 13, 14, 16]), (16, some [0, 1, 2, 3, 4, 5, 6, 7, 8, 9, 10, 11, 12, 13, 14, 15]), (17, some [0, 1, 2, 3, 4, 5, 6, 7, 8, 9, 10, 11, 12, 13, 14, 15, 16]), (18, some [0, 1, 2, 3, 4, 5, 6, 7, 8, 9, 10, 11, 12, 13, 14, 15, 16, 17]), (13, some [0, 1, 2, 3, 4, 5, 6, 7, 8, 9, 10, 11, 12, 14, 15, 16, 17, 18, 19]), (19, none), (20, some [0, 1, 2, 3, 4, 5, 6, 7, 8, 9, 10, 11, 12, 13, 14, 15, 16, 17, 18, 19]), (21, none), (22, some [0, 1, 2, 3, 4, 5, 6, 7, 8, 9, 10, 11, 12, 13, 14, 15, 16, 17, 18, 19, 20, 21]), (23, none)])]
theorem B210_ok : regsO B210 Tryz.f210.body = true := by kernel_rfl
theorem F210_ok : FOk Tryz.prog 210 (FI.of Tryz.f210 T210 B210) := FOk.of Tryz.func210 rfl T210_ok B210_ok Tryz.call210
def T211 : Tab := [(3, ti3), (170, ti170), (205, ti205), (245, ti245), (262, ti262)]
theorem T211_ok : TabOk Tryz.prog T211 := .cons tk3 <| .cons tk170 <| .cons tk205 <| .cons tk245 <| .cons tk262 <| .nil mixed
def B211 : SchT := []
theorem B211_ok : regsO B211 Tryz.f211.body = true := by kernel_rfl
theorem F211_ok : FOk Tryz.prog 211 (FI.of Tryz.f211 T211 B211) := FOk.of Tryz.func211 rfl T211_ok B211_ok Tryz.call211
def T212 : Tab := [(3, ti3), (170, ti170), (205, ti205), (245, ti245), (262, ti262)]
theorem T212_ok : TabOk Tryz.prog T212 := .cons tk3 <| .cons tk170 <| .cons tk205 <| .cons tk245 <| .cons tk262 <| .nil mixed
def B212 : SchT := []
theorem B212_ok : regsO B212 Tryz.f212.body = true := by kernel_rfl
theorem F212_ok : FOk Tryz.prog 212 (FI.of Tryz.f212 T212 B212) := FOk.of Tryz.func212 rfl T212_ok B212_ok Tryz.call212
def T214 : Tab := [(3, ti3), (32, ti32), (151, ti151)]
theorem T214_ok : TabOk Tryz.prog T214 := .cons tk3 <| .cons tk32 <| .cons tk151 <| .nil mixed
def B214 : SchT := []
theorem B214_ok : regsO B214 Tryz.f214.body = true := by kernel_rfl
theorem F214_ok : FOk Tryz.prog 214 (FI.of Tryz.f214 T214 B214) := FOk.of Tryz.func214 rfl T214_ok B214_ok Tryz.call214
def T215 : Tab := [(2, ti2), (3, ti3), (29, ti29), (193, ti193), (197, ti197), (247, ti247)]
theorem T215_ok : TabOk Tryz.prog T215 := .cons tk2 <| .cons tk3 <| .cons tk29 <| .cons tk193 <| .cons tk197 <| .cons tk247 <| .nil mixed
def B215 : SchT := []
theorem B215_ok : regsO B215 Tryz.f215.body = true := by kernel_rfl
theorem F215_ok : FOk Tryz.prog 215 (FI.of Tryz.f215 T215 B215) := FOk.of Tryz.func215 rfl T215_ok B215_ok Tryz.call215
def T216 : Tab := [(2, ti2), (3, ti3), (29, ti29), (42, ti42), (193, ti193), (247, ti247)]
theorem T216_ok : TabOk Tryz.prog T216 := .cons tk2 <| .cons tk3 <| .cons tk29 <| .cons tk42 <| .cons tk193 <| .cons tk247 <| .nil mixed
def B216 : SchT := []
theorem B216_ok : regsO B216 Tryz.f216.body = true := by kernel_rfl
theorem F216_ok : FOk Tryz.prog 216 (FI.of Tryz.f216 T216 B216) := FOk.of Tryz.func216 rfl T216_ok B216_ok Tryz.call216
def T217 : Tab := []
theorem T217_ok : TabOk Tryz.prog T217 := .nil mixed
def B217 : SchT := []
theorem B217_ok : regsO B217 Tryz.f217.body = true := by kernel_rfl
theorem F217_ok : FOk Tryz.prog 217 (FI.of Tryz.f217 T217 B217) := FOk.of Tryz.func217 rfl T217_ok B217_ok Tryz.call217
def T218 : Tab := [(2, ti2), (4, ti4), (5, ti5)]
theorem T218_ok : TabOk Tryz.prog T218 := .cons tk2 <| .cons tk4 <| .cons tk5 <| .nil mixed
def B218 : SchT := []
theorem B218_ok : regsO B218 Tryz.f218.body = true := by kernel_rfl
theorem F218_ok : FOk Tryz.prog 218 (FI.of Tryz.f218 T218 B218) := FOk.of Tryz.func218 rfl T218_ok B218_ok Tryz.call218
def T219 : Tab := [(3, ti3), (30, ti30), (94, ti94)]
theorem T219_ok : TabOk Tryz.prog T219 := .cons tk3 <| .cons tk30 <| .cons tk94 <| .nil mixed
def B219 : SchT := [(3, [(0, some [1, 2, 3, 4, 5, 6, 7, 8, 9, 10, 11]), (1, some [0, 2, 3, 4, 5, 6, 7, 8, 9, 10, 11]), (2, some [0, 1, 3, 4, 5, 6, 7, 8, 9, 10, 11, 12, 13]), (3, some [0, 1, 2, 4, 5, 6, 7, 8, 9, 10, 11, 12, 13]), (4, some [0, 1, 2, 3, 5, 8, 9, 10, 11]), (5, some [0, 1, 2, 3, 4, 8, 9, 10, 11]), (6, some [0, 1, 2, 3, 4, 5, 8, 9, 10, 11]), (8, some [0, 1, 2, 3, 4, 5, 6, 7, 9]), (9, some [0, 1, 2, 3, 4, 5, 6, 7, 8]), (10, some [0, 1, 2, 3, 4, 5, 6, 7, 8, 9]), (7, some [0, 1, 2, 3, 4, 5, 6, 8, 9, 10, 11]), (11, none), (12, some [0, 1, 2, 3, 4, 5, 6, 7, 8, 9, 10, 11]), (13, none), (14, some [0, 1, 2, 3, 4, 5, 6, 7, 8, 9, 10, 11, 12, 13]), (15, none)])]
theorem B219_ok : regsO B219 Tryz.f219.body = true := by kernel_rfl
theorem F219_ok : FOk Tryz.prog 219 (FI.of Tryz.f219 T219 B219) := FOk.of Tryz.func219 rfl T219_ok B219_ok Tryz.call219
def T220 : Tab := [(3, ti3), (170, ti170), (205, ti205)]
theorem T220_ok : TabOk Tryz.prog T220 := .cons tk3 <| .cons tk170 <| .cons tk205 <| .nil mixed
def B220 : SchT := [(1, [(0, some [1, 2, 3, 4, 5, 6, 7, 8]), (1, some [0, 2, 5, 6, 7, 8]), (2, some [0, 1, 5, 6, 7, 8]), (3, some [0, 1, 2, 5, 6, 7, 8]), (5, some [0, 1, 2, 3, 4, 6]), (6, some [0, 1, 2, 3, 4, 5]), (7, some [0, 1, 2, 3, 4, 5, 6]), (4, some [0, 1, 2, 3, 5, 6, 7, 8]), (8, none), (9, none), (10, some [0, 1, 2, 3, 4, 5, 6, 7, 8, 9])])]
theorem B220_ok : regsO B220 Tryz.f220.body = true := by kernel_rfl
theorem F220_ok : FOk Tryz.prog 220 (FI.of Tryz.f220 T220 B220) := FOk.of Tryz.func220 rfl T220_ok B220_ok Tryz.call220
def T221 : Tab := [(32, ti32), (151, ti151)]
theorem T221_ok : TabOk Tryz.prog T221 := .cons tk32 <| .cons tk151 <| .nil mixed
def B221 : SchT := []
theorem B221_ok : regsO B221 Tryz.f221.body = true := by kernel_rfl
theorem F221_ok : FOk Tryz.prog 221 (FI.of Tryz.f221 T221 B221) := FOk.of Tryz.func221 rfl T221_ok B221_ok Tryz.call221
def T222 : Tab := [(2, ti2), (4, ti4)]
theorem T222_ok : TabOk Tryz.prog T222 := .cons tk2 <| .cons tk4 <| .nil mixed
def B222 : SchT := []
theorem B222_ok : regsO B222 Tryz.f222.body = true := by kernel_rfl
theorem F222_ok : FOk Tryz.prog 222 (FI.of Tryz.f222 T222 B222) := FOk.of Tryz.func222 rfl T222_ok B222_ok Tryz.call222
def T223 : Tab := [(2, ti2), (4, ti4), (22, ti22)]
theorem T223_ok : TabOk Tryz.prog T223 := .cons tk2 <| .cons tk4 <| .cons tk22 <| .nil mixed
def B223 : SchT := []
theorem B223_ok : regsO B223 Tryz.f223.body = true := by kernel_rfl
theorem F223_ok : FOk Tryz.prog 223 (FI.of Tryz.f223 T223 B223) := FOk.of Tryz.func223 rfl T223_ok B223_ok Tryz.call223
def T224 : Tab := [(3, ti3), (32, ti32), (151, ti151)]
theorem T224_ok : TabOk Tryz.prog T224 := .cons tk3 <| .cons tk32 <| .cons tk151 <| .nil mixed
def B224 : SchT := [(3, [(0, some [1, 2, 3, 4, 5, 6, 7, 8, 9, 10, 11]), (1, some [0, 2, 3, 4, 5, 6, 7, 8, 9, 10, 11]), (2, some [0, 1, 3, 4, 5, 6, 7, 8, 9, 10, 11, 12, 13]), (3, some [0, 1, 2, 4, 5, 6, 7, 8, 9, 10, 11, 12, 13]), (4, some [0, 1, 2, 3, 5, 8, 9, 10, 11]), (5, some [0, 1, 2, 3, 4, 8, 9, 10, 11]), (6, some [0, 1, 2, 3, 4, 5, 8, 9, 10, 11]), (8, some [0, 1, 2, 3, 4, 5, 6, 7, 9]), (9, some [0, 1, 2, 3, 4, 5, 6, 7, 8]), (10, some [0, 1, 2, 3, 4, 5, 6, 7, 8, 9]), (7, some [0, 1, 2, 3, 4, 5, 6, 8, 9, 10, 11]), (11, none), (12, some [0, 1, 2, 3, 4, 5, 6, 7, 8, 9, 10, 11]), (13, none), (14, some [0, 1, 2, 3, 4, 5, 6, 7, 8, 9, 10, 11, 12, 13]), (15, none)])]
theorem B224_ok : regsO B224 Tryz.f224.body = true := by kernel_rfl
theorem F224_ok : FOk Tryz.prog 224 (FI.of Tryz.f224 T224 B224) := FOk.of Tryz.func224 rfl T224_ok B224_ok Tryz.call224
def T225 : Tab := [(22, ti22)]
theorem T225_ok : TabOk Tryz.prog T225 := .cons tk22 <| .nil mixed
def B225 : SchT := []
theorem B225_ok : regsO B225 Tryz.f225.body = true := by kernel_rfl
theorem F225_ok : FOk Tryz.prog 225 (FI.of Tryz.f225 T225 B225) := FOk.of Tryz.func225 rfl T225_ok B225_ok Tryz.call225
def T226 : Tab := [(2, ti2), (22, ti22)]
theorem T226_ok : TabOk Tryz.prog T226 := .cons tk2 <| .cons tk22 <| .nil mixed
def B226 : SchT := []
theorem B226_ok : regsO B226 Tryz.f226.body = true := by kernel_rfl
theorem F226_ok : FOk Tryz.prog 226 (FI.of Tryz.f226 T226 B226) := FOk.of Tryz.func226 rfl T226_ok B226_ok Tryz.call226
noncomputable def FALL : FT := [(2, FI.of Tryz.f2 T2 B2), (3, FI.of Tryz.f3 T3 B3), (4, FI.of Tryz.f4 T4 B4), (5, FI.of Tryz.f5 T5 B5), (6, FI.of Tryz.f6 T6 B6), (7, FI.of Tryz.f7 T7 B7), (8, FI.of Tryz.f8 T8 B8), (9, FI.of Tryz.f9 T9 B9), (10, FI.of Tryz.f10 T10 B10), (11, FI.of Tryz.f11 T11 B11), (12, FI.of Tryz.f12 T12 B12), (13, FI.of Tryz.f13 T13 B13), (14, FI.of Tryz.f14 T14 B14), (15, FI.of Tryz.f15 T15 B15), (16, FI.of Tryz.f16 T16 B16), (17, FI.of Tryz.f17 T17 B17), (18, FI.of Tryz.f18 T18 B18), (19, FI.of Tryz.f19 T19 B19), (20, FI.of Tryz.f20 T20 B20), (21, FI.of Tryz.f21 T21 B21), (22, FI.of Tryz.f22 T22 B22), (23, FI.of Tryz.f23 T23 B23), (24, FI.of Tryz.f24 T24 B24), (25, FI.of Tryz.f25 T25 B25), (26, FI.of Tryz.f26 T26 B26), (27, FI.of Tryz.f27 T27 B27), (28, FI.of Tryz.f28 T28 B28), (29, FI.of Tryz.f29 T29 B29), (30, FI.of Tryz.f30 T30 B30), (31, FI.of Tryz.f31 T31 B31), (32, FI.of Tryz.f32 T32 B32), (33, FI.of Tryz.f33 T33 B33), (34, FI.of Tryz.f34 T34 B34), (35, FI.of Tryz.f35 T35 B35), (36, FI.of Tryz.f36 T36 B36), (37, FI.of Tryz.f37 T37 B37), (38, FI.of Tryz.f38 T38 B38), (39, FI.of Tryz.f39 T39 B39), (40, FI.of Tryz.f40 T40 B40), (41, FI.of Tryz.f41 T41 B41), (42, FI.of Tryz.f42 T42 B42), (43, FI.of Tryz.f43 T43 B43), (44, FI.of Tryz.f44 T44 B44), (45, FI.of Tryz.f45 T45 B45), (46, FI.of Tryz.f46 T46 B46), (47, FI.of Tryz.f47 T47 B47), (48, FI.of Tryz.f48 T48 B48), (49, FI.of Tryz.f49 T49 B49), (50, FI.of Tryz.f50 T50 B50), (51, FI.of Tryz.f51 T51 B51), (52, FI.of Tryz.f52 T52 B52), (53, FI.of Tryz.f53 T53 B53), (54, FI.of Tryz.f54 T54 B54), (55, FI.of Tryz.f55 T55 B55), (56, FI.of Tryz.f56 T56 B56), (57, FI.of Tryz.f57 T57 B57), (58, FI.of Tryz.f58 T58 B58), (59, FI.of Tryz.f59 T59 B59), (60, FI.of Tryz.f60 T60 B60), (61, FI.of Tryz.f61 T61 B61), (62, FI.of Tryz.f62 T62 B62), (63, FI.of Tryz.f63 T63 B63), (64, FI.of Tryz.f64 T64 B64), (65, FI.of Tryz.f65 T65 B65), (66, FI.of Tryz.f66 T66 B66), (67, FI.of Tryz.f67 T67 B67), (68, FI.of Tryz.f68 T68 B68), (69, FI.of Tryz.f69 T69 B69), (70, FI.of Tryz.f70 T70 B70), (71, FI.of Tryz.f71 T71 B71), (72, FI.of Tryz.f72 T72 B72), (73, FI.of Tryz.f73 T73 B73), (74, FI.of Tryz.f74 T74 B74), (75, FI.of Tryz.f75 T75 B75), (76, FI.of Tryz.f76 T76 B76), (77, FI.of Tryz.f77 T77 B77), (78, FI.of Tryz.f78 T78 B78), (79, FI.of Tryz.f79 T79 B79), (80, FI.of Tryz.f80 T80 B80), (81, FI.of Tryz.f81 T81 B81), (82, FI.of Tryz.f82 T82 B82), (83, FI.of Tryz.f83 T83 B83), (84, FI.of Tryz.f84 T84 B84), (85, FI.of Tryz.f85 T85 B85), (86, FI.of Tryz.f86 T86 B86), (87, FI.of Tryz.f87 T87 B87), (88, FI.of Tryz.f88 T88 B88), (89, FI.of Tryz.f89 T89 B89), (90, FI.of Tryz.f90 T90 B90), (91, FI.of Tryz.f91 T91 B91), (92, FI.of Tryz.f92 T92 B92), (93, FI.of Tryz.f93 T93 B93), (94, FI.of Tryz.f94 T94 B94), (95, FI.of Tryz.f95 T95 B95), (96, FI.of Tryz.f96 T96 B96), (97, FI.of Tryz.f97 T97 B97), (98, FI.of Tryz.f98 T98 B98), (99, FI.of Tryz.f99 T99 B99), (100, FI.of Tryz.f100 T100 B100), (101, FI.of Tryz.f101 T101 B101), (102, FI.of Tryz.f102 T102 B102), (103, FI.of Tryz.f103 T103 B103), (104, FI.of Tryz.f104 T104 B104), (105, FI.of Tryz.f105 T105 B105), (106, FI.of Tryz.f106 T106 B106), (107, FI.of Tryz.f107 T107 B107), (108, FI.of Tryz.f108 T108 B108), (109, FI.of Tryz.f109 T109 B109), (110, FI.of Tryz.f110 T110 B110), (111, FI.of Tryz.f111 T111 B111), (112, FI.of Tryz.f112 T112 B112), (113, FI.of Tryz.f113 T113 B113), (114, FI.of Tryz.f114 T114 B114), (115, FI.of Tryz.f115 T115 B115), (116, FI.of Tryz.f116 T116 B116), (117, FI.of Tryz.f117 T117 B117), (118, FI.of Tryz.f118 T118 B118), (119, FI.of Tryz.f119 T119 B119), (120, FI.of Tryz.f120 T120 B120), (121, FI.of Tryz.f121 T121 B121), (122, FI.of Tryz.f122 T122 B122), (123, FI.of Tryz.f123 T123 B123), (124, FI.of Tryz.f124 T124 B124), (125, FI.of Tryz.f125 T125 B125), (126, FI.of Tryz.f126 T126 B126), (127, FI.of Tryz.f127 T127 B127), (128, FI.of Tryz.f128 T128 B128), (129, FI.of Tryz.f129 T129 B129), (130, FI.of Tryz.f130 T130 B130), (131, FI.of Tryz.f131 T131 B131), (132, FI.of Tryz.f132 T132 B132), (133, FI.of Tryz.f133 T133 B133), (134, FI.of Tryz.f134 T134 B134), (135, FI.of Tryz.f135 T135 B135), (136, FI.of Tryz.f136 T136 B136), (137, FI.of Tryz.f137 T137 B137), (138, FI.of Tryz.f138 T138 B138), (139, FI.of Tryz.f139 T139 B139), (140, FI.of Tryz.f140 T140 B140), (141, FI.of Tryz.f141 T141 B141), (142, FI.of Tryz.f142 T142 B142), (143, FI.of Tryz.f143 T143 B143), (144, FI.of Tryz.f144 T144 B144), (145, FI.of Tryz.f145 T145 B145), (146, FI.of Tryz.f146 T146 B146), (147, FI.of Tryz.f147 T147 B147), (148, FI.of Tryz.f148 T148 B148), (149, FI.of Tryz.f149 T149 B149), (150, FI.of Tryz.f150 T150 B150), (151, FI.of Tryz.f151 T151 B151), (152, FI.of Tryz.f152 T152 B152), (153, FI.of Tryz.f153 T153 B153), (154, FI.of Tryz.f154 T154 B154), (155, FI.of Tryz.f155 T155 B155), (156, FI.of Tryz.f156 T156 B156), (157, FI.of Tryz.f157 T157 B157), (158, FI.of Tryz.f158 T158 B158), (159, FI.of Tryz.f159 T159 B159), (160, FI.of Tryz.f160 T160 B160), (161, FI.of Tryz.f161 T161 B161), (162, FI.of Tryz.f162 T162 B162), (163, FI.of Tryz.f163 T163 B163), (164, FI.of Tryz.f164 T164 B164), (165, FI.of Tryz.f165 T165 B165), (166, FI.of Tryz.f166 T166 B166), (167, FI.of Tryz.f167 T167 B167), (168, FI.of Tryz.f168 T168 B168), (169, FI.of Tryz.f169 T169 B169), (170, FI.of Tryz.f170 T170 B170), (171, FI.of Tryz.f171 T171 B171), (172, FI.of Tryz.f172 T172 B172), (173, FI.of Tryz.f173 T173 B173), (174, FI.of Tryz.f174 T174 B174), (175, FI.of Tryz.f175 T175 B175), (176, FI.of Tryz.f176 T176 B176), (177, FI.of Tryz.f177 T177 B177), (178, FI.of Tryz.f178 T178 B178), (179, FI.of Tryz.f179 T179 B179), (180, FI.of Tryz.f180 T180 B180), (181, FI.of Tryz.f181 T181 B181), (182, FI.of Tryz.f182 T182 B182), (183, FI.of Tryz.f183 T183 B183), (184, FI.of Tryz.f184 T184 B184), (185, FI.of Tryz.f185 T185 B185), (186, FI.of Tryz.f186 T186 B186), (187, FI.of Tryz.f187 T187 B187), (188, FI.of Tryz.f188 T188 B188), (189, FI.of Tryz.f189 T189 B189), (190, FI.of Tryz.f190 T190 B190), (191, FI.of Tryz.f191 T191 B191), (193, FI.of Tryz.f193 T193 B193), (194, FI.of Tryz.f194 T194 B194), (195, FI.of Tryz.f195 T195 B195), (196, FI.of Tryz.f196 T196 B196), (197, FI.of Tryz.f197 T197 B197), (198, FI.of Tryz.f198 T198 B198), (199, FI.of Tryz.f199 T199 B199), (200, FI.of Tryz.f200 T200 B200), (201, FI.of Tryz.f201 T201 B201), (202, FI.of Tryz.f202 T202 B202), (203, FI.of Tryz.f203 T203 B203), (204, FI.of Tryz.f204 T204 B204), (205, FI.of Tryz.f205 T205 B205), (206, FI.of Tryz.f206 T206 B206), (207, FI.of Tryz.f207 T207 B207), (208, FI.of Tryz.f208 T208 B208), (209, FI.of Tryz.f209 T209 B209), (210, FI.of Tryz.f210 T210 B210), (211, FI.of Tryz.f211 T211 B211), (212, FI.of Tryz.f212 T212 B212), (214, FI.of Tryz.f214 T214 B214), (215, FI.of Tryz.f215 T215 B215), (216, FI.of Tryz.f216 T216 B216), (217, FI.of Tryz.f217 T217 B217), (218, FI.of Tryz.f218 T218 B218), (219, FI.of Tryz.f219 T219 B219), (220, FI.of Tryz.f220 T220 B220), (221, FI.of Tryz.f221 T221 B221), (222, FI.of Tryz.f222 T222 B222), (223, FI.of Tryz.f223 T223 B223), (224, FI.of Tryz.f224 T224 B224), (225, FI.of Tryz.f225 T225 B225), (226, FI.of Tryz.f226 T226 B226)]
theorem FALL_ok : FTok Tryz.prog FALL := .cons F2_ok <| .cons F3_ok <| .cons F4_ok <| .cons F5_ok <| .cons F6_ok <| .cons F7_ok <| .cons F8_ok <| .cons F9_ok <| .cons F10_ok <| .cons F11_ok <| .cons F12_ok <| .cons F13_ok <| .cons F14_ok <| .cons F15_ok <| .cons F16_ok <| .cons F17_ok <| .cons F18_ok <| .cons F19_ok <| .cons F20_ok <| .cons F21_ok <| .cons F22_ok <| .cons F23_ok <| .cons F24_ok <| .cons F25_ok <| .cons F26_ok <| .cons F27_ok <| .cons F28_ok <| .cons F29_ok <| .cons F30_ok <| .cons F31_ok <| .cons F32_ok <| .cons F33_ok <| .cons F34_ok <| .cons F35_ok <| .cons F36_ok <| .cons F37_ok <| .cons F38_ok <| .cons F39_ok <| .cons F40_ok <| .cons F41_ok <| .cons F42_ok <| .cons F43_ok <| .cons F44_ok <| .cons F45_ok <| .cons F46_ok <| .cons F47_ok <| .cons F48_ok <| .cons F49_ok <| .cons F50_ok <| .cons F51_ok <| .cons F52_ok <| .cons F53_ok <| .cons F54_ok <| .cons F55_ok <| .cons F56_ok <| .cons F57_ok <| .cons F58_ok <| .cons F59_ok <| .cons F60_ok <| .cons F61_ok <| .cons F62_ok <| .cons F63_ok <| .cons F64_ok <| .cons F65_ok <| .cons F66_ok <| .cons F67_ok <| .cons F68_ok <| .cons F69_ok <| .cons F70_ok <| .cons F71_ok <| .cons F72_ok <| .cons F73_ok <| .cons F74_ok <| .cons F75_ok <| .cons F76_ok <| .cons F77_ok <| .cons F78_ok <| .cons F79_ok <| .cons F80_ok <| .cons F81_ok <| .cons F82_ok <| .cons F83_ok <| .cons F84_ok <| .cons F85_ok <| .cons F86_ok <| .cons F87_ok <| .cons F88_ok <| .cons F89_ok <| .cons F90_ok <| .cons F91_ok <| .cons F92_ok <| .cons F93_ok <| .cons F94_ok <| .cons F95_ok <| .cons F96_ok <| .cons F97_ok <| .cons F98_ok <| .cons F99_ok <| .cons F100_ok <| .cons F101_ok <| .cons F102_ok <| .cons F103_ok <| .cons F104_ok <| .cons F105_ok <| .cons F106_ok <| .cons F107_ok <| .cons F108_ok <| .cons F109_ok <| .cons F110_ok <| .cons F111_ok <| .cons F112_ok <| .cons F113_ok <| .cons F114_ok <| .cons F115_ok <| .cons F116_ok <| .cons F117_ok <| .cons F118_ok <| .cons F119_ok <| .cons F120_ok <| .cons F121_ok <| .cons F122_ok <| .cons F123_ok <| .cons F124_ok <| .cons F125_ok <| .cons F126_ok <| .cons F127_ok <| .cons F128_ok <| .cons F129_ok <| .cons F130_ok <| .cons F131_ok <| .cons F132_ok <| .cons F133_ok <| .cons F134_ok <| .cons F135_ok <| .cons F136_ok <| .cons F137_ok <| .cons F138_ok <| .cons F139_ok <| .cons F140_ok <| .cons F141_ok <| .cons F142_ok <| .cons F143_ok <| .cons F144_ok <| .cons F145_ok <| .cons F146_ok <| .cons F147_ok <| .cons F148_ok <| .cons F149_ok <| .cons F150_ok <| .cons F151_ok <| .cons F152_ok <| .cons F153_ok <| .cons F154_ok <| .cons F155_ok <| .cons F156_ok <| .cons F157_ok <| .cons F158_ok <| .cons F159_ok <| .cons F160_ok <| .cons F161_ok <| .cons F162_ok <| .cons F163_ok <| .cons F164_ok <| .cons F165_ok <| .cons F166_ok <| .cons F167_ok <| .cons F168_ok <| .cons F169_ok <| .cons F170_ok <| .cons F171_ok <| .cons F172_ok <| .cons F173_ok <| .cons F174_ok <| .cons F175_ok <| .cons F176_ok <| .cons F177_ok <| .cons F178_ok <| .cons F179_ok <| .cons F180_ok <| .cons F181_ok <| .cons F182_ok <| .cons F183_ok <| .cons F184_ok <| .cons F185_ok <| .cons F186_ok <| .cons F187_ok <| .cons F188_ok <| .cons F189_ok <| .cons F190_ok <| .cons F191_ok <| .cons F193_ok <| .cons F194_ok <| .cons F195_ok <| .cons F196_ok <| .cons F197_ok <| .cons F198_ok <| .cons F199_ok <| .cons F200_ok <| .cons F201_ok <| .cons F202_ok <| .cons F203_ok <| .cons F204_ok <| .cons F205_ok <| .cons F206_ok <| .cons F207_ok <| .cons F208_ok <| .cons F209_ok <| .cons F210_ok <| .cons F211_ok <| .cons F212_ok <| .cons F214_ok <| .cons F215_ok <| .cons F216_ok <| .cons F217_ok <| .cons F218_ok <| .cons F219_ok <| .cons F220_ok <| .cons F221_ok <| .cons F222_ok <| .cons F223_ok <| .cons F224_ok <| .cons F225_ok <| .cons F226_ok .nil
end Go.Proofs.YthaffebapmkppaaGreat
