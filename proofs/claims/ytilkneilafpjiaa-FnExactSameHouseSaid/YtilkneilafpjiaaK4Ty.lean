/- The types of the seat. -/
import Derived.Test.YtilkneilafpjiaaVxTwo
import Derived.Test.YtilkneilafpjiaaProg
import Derived.KernelRfl
namespace Go.Proofs.Ytilkneilafpjiaa
open Go.RowKit Go.VL
set_option linter.unusedSimpArgs false
set_option linter.unusedVariables false
set_option maxHeartbeats 1000000
@[simp] theorem tk_2 : tk Try.prog 2 = .int .i64 := by kernel_rfl
@[simp] theorem co_2 : Try.prog.cellsOf 2 = 1 := by kernel_rfl
@[simp] theorem cz_2 : csz Try.prog 2 = 1 := by kernel_rfl
@[simp] theorem ag_2 : aggB Try.prog 2 = false := by kernel_rfl
@[simp] theorem ze_2 : zeroV Try.prog 2 = some [.int .i64 0] := by kernel_rfl
@[simp] theorem by_2 : Try.prog.bytesOf 2 = 8 := by kernel_rfl
@[simp] theorem tk_3 : tk Try.prog 3 = .int .i64 := by kernel_rfl
@[simp] theorem co_3 : Try.prog.cellsOf 3 = 1 := by kernel_rfl
@[simp] theorem cz_3 : csz Try.prog 3 = 1 := by kernel_rfl
@[simp] theorem ag_3 : aggB Try.prog 3 = false := by kernel_rfl
@[simp] theorem ze_3 : zeroV Try.prog 3 = some [.int .i64 0] := by kernel_rfl
@[simp] theorem by_3 : Try.prog.bytesOf 3 = 8 := by kernel_rfl
@[simp] theorem tk_4 : tk Try.prog 4 = .bool := by kernel_rfl
@[simp] theorem co_4 : Try.prog.cellsOf 4 = 1 := by kernel_rfl
@[simp] theorem cz_4 : csz Try.prog 4 = 1 := by kernel_rfl
@[simp] theorem ag_4 : aggB Try.prog 4 = false := by kernel_rfl
@[simp] theorem ze_4 : zeroV Try.prog 4 = some [.bool false] := by kernel_rfl
@[simp] theorem by_4 : Try.prog.bytesOf 4 = 1 := by kernel_rfl
@[simp] theorem tk_9 : tk Try.prog 9 = .str := by kernel_rfl
@[simp] theorem co_9 : Try.prog.cellsOf 9 = 1 := by kernel_rfl
@[simp] theorem cz_9 : csz Try.prog 9 = 1 := by kernel_rfl
@[simp] theorem ag_9 : aggB Try.prog 9 = false := by kernel_rfl
@[simp] theorem ze_9 : zeroV Try.prog 9 = some [.string ByteArray.empty] := by kernel_rfl
@[simp] theorem by_9 : Try.prog.bytesOf 9 = 16 := by kernel_rfl
@[simp] theorem tk_22 : tk Try.prog 22 = .flt .f32 := by kernel_rfl
@[simp] theorem co_22 : Try.prog.cellsOf 22 = 1 := by kernel_rfl
@[simp] theorem cz_22 : csz Try.prog 22 = 1 := by kernel_rfl
@[simp] theorem ag_22 : aggB Try.prog 22 = false := by kernel_rfl
@[simp] theorem ze_22 : zeroV Try.prog 22 = some [.float .f32 0] := by kernel_rfl
@[simp] theorem by_22 : Try.prog.bytesOf 22 = 4 := by kernel_rfl
@[simp] theorem tk_26 : tk Try.prog 26 = .slice 22 := by kernel_rfl
@[simp] theorem co_26 : Try.prog.cellsOf 26 = 1 := by kernel_rfl
@[simp] theorem cz_26 : csz Try.prog 26 = 1 := by kernel_rfl
@[simp] theorem ag_26 : aggB Try.prog 26 = false := by kernel_rfl
@[simp] theorem ze_26 : zeroV Try.prog 26 = some [.slice none 0 0] := by kernel_rfl
@[simp] theorem by_26 : Try.prog.bytesOf 26 = 24 := by kernel_rfl
@[simp] theorem tk_27 : tk Try.prog 27 = .slice 132 := by kernel_rfl
@[simp] theorem co_27 : Try.prog.cellsOf 27 = 1 := by kernel_rfl
@[simp] theorem cz_27 : csz Try.prog 27 = 1 := by kernel_rfl
@[simp] theorem ag_27 : aggB Try.prog 27 = false := by kernel_rfl
@[simp] theorem ze_27 : zeroV Try.prog 27 = some [.slice none 0 0] := by kernel_rfl
@[simp] theorem by_27 : Try.prog.bytesOf 27 = 24 := by kernel_rfl
@[simp] theorem tk_28 : tk Try.prog 28 = .slice 134 := by kernel_rfl
@[simp] theorem co_28 : Try.prog.cellsOf 28 = 1 := by kernel_rfl
@[simp] theorem cz_28 : csz Try.prog 28 = 1 := by kernel_rfl
@[simp] theorem ag_28 : aggB Try.prog 28 = false := by kernel_rfl
@[simp] theorem ze_28 : zeroV Try.prog 28 = some [.slice none 0 0] := by kernel_rfl
@[simp] theorem by_28 : Try.prog.bytesOf 28 = 24 := by kernel_rfl
@[simp] theorem tk_30 : tk Try.prog 30 = .struct [(0, 1, false), (1, 1, false), (2, 1, false), (3, 1, false)] := by kernel_rfl
@[simp] theorem co_30 : Try.prog.cellsOf 30 = 4 := by kernel_rfl
@[simp] theorem cz_30 : csz Try.prog 30 = 4 := by kernel_rfl
@[simp] theorem ag_30 : aggB Try.prog 30 = true := by kernel_rfl
@[simp] theorem ze_30 : zeroV Try.prog 30 = some [.slice none 0 0, .slice none 0 0, .slice none 0 0, .slice none 0 0] := by kernel_rfl
@[simp] theorem by_30 : Try.prog.bytesOf 30 = 96 := by kernel_rfl
@[simp] theorem tk_31 : tk Try.prog 31 = .slice 105 := by kernel_rfl
@[simp] theorem co_31 : Try.prog.cellsOf 31 = 1 := by kernel_rfl
@[simp] theorem cz_31 : csz Try.prog 31 = 1 := by kernel_rfl
@[simp] theorem ag_31 : aggB Try.prog 31 = false := by kernel_rfl
@[simp] theorem ze_31 : zeroV Try.prog 31 = some [.slice none 0 0] := by kernel_rfl
@[simp] theorem by_31 : Try.prog.bytesOf 31 = 24 := by kernel_rfl
@[simp] theorem tk_32 : tk Try.prog 32 = .slice 92 := by kernel_rfl
@[simp] theorem co_32 : Try.prog.cellsOf 32 = 1 := by kernel_rfl
@[simp] theorem cz_32 : csz Try.prog 32 = 1 := by kernel_rfl
@[simp] theorem ag_32 : aggB Try.prog 32 = false := by kernel_rfl
@[simp] theorem ze_32 : zeroV Try.prog 32 = some [.slice none 0 0] := by kernel_rfl
@[simp] theorem by_32 : Try.prog.bytesOf 32 = 24 := by kernel_rfl
@[simp] theorem tk_33 : tk Try.prog 33 = .slice 9 := by kernel_rfl
@[simp] theorem co_33 : Try.prog.cellsOf 33 = 1 := by kernel_rfl
@[simp] theorem cz_33 : csz Try.prog 33 = 1 := by kernel_rfl
@[simp] theorem ag_33 : aggB Try.prog 33 = false := by kernel_rfl
@[simp] theorem ze_33 : zeroV Try.prog 33 = some [.slice none 0 0] := by kernel_rfl
@[simp] theorem by_33 : Try.prog.bytesOf 33 = 24 := by kernel_rfl
@[simp] theorem tk_34 : tk Try.prog 34 = .slice 108 := by kernel_rfl
@[simp] theorem co_34 : Try.prog.cellsOf 34 = 1 := by kernel_rfl
@[simp] theorem cz_34 : csz Try.prog 34 = 1 := by kernel_rfl
@[simp] theorem ag_34 : aggB Try.prog 34 = false := by kernel_rfl
@[simp] theorem ze_34 : zeroV Try.prog 34 = some [.slice none 0 0] := by kernel_rfl
@[simp] theorem by_34 : Try.prog.bytesOf 34 = 24 := by kernel_rfl
@[simp] theorem tk_36 : tk Try.prog 36 = .struct [(0, 1, false), (1, 1, false), (2, 1, false), (3, 1, false), (4, 1, false)] := by kernel_rfl
@[simp] theorem co_36 : Try.prog.cellsOf 36 = 5 := by kernel_rfl
@[simp] theorem cz_36 : csz Try.prog 36 = 5 := by kernel_rfl
@[simp] theorem ag_36 : aggB Try.prog 36 = true := by kernel_rfl
@[simp] theorem ze_36 : zeroV Try.prog 36 = some [.float .f32 0, .float .f32 0, .float .f32 0, .float .f32 0, .int .i64 0] := by kernel_rfl
@[simp] theorem by_36 : Try.prog.bytesOf 36 = 24 := by kernel_rfl
@[simp] theorem tk_38 : tk Try.prog 38 = .struct [(0, 4, true), (4, 1, false), (5, 1, false), (6, 1, false), (7, 1, false), (8, 1, false), (9, 5, true)] := by kernel_rfl
@[simp] theorem co_38 : Try.prog.cellsOf 38 = 14 := by kernel_rfl
@[simp] theorem cz_38 : csz Try.prog 38 = 14 := by kernel_rfl
@[simp] theorem ag_38 : aggB Try.prog 38 = true := by kernel_rfl
@[simp] theorem ze_38 : zeroV Try.prog 38 = some [.slice none 0 0, .slice none 0 0, .slice none 0 0, .slice none 0 0, .slice none 0 0, .slice none 0 0, .slice none 0 0, .slice none 0 0, .int .i64 0, .float .f32 0, .float .f32 0, .float .f32 0, .float .f32 0, .int .i64 0] := by kernel_rfl
@[simp] theorem by_38 : Try.prog.bytesOf 38 = 224 := by kernel_rfl
@[simp] theorem tk_41 : tk Try.prog 41 = .slice 111 := by kernel_rfl
@[simp] theorem co_41 : Try.prog.cellsOf 41 = 1 := by kernel_rfl
@[simp] theorem cz_41 : csz Try.prog 41 = 1 := by kernel_rfl
@[simp] theorem ag_41 : aggB Try.prog 41 = false := by kernel_rfl
@[simp] theorem ze_41 : zeroV Try.prog 41 = some [.slice none 0 0] := by kernel_rfl
@[simp] theorem by_41 : Try.prog.bytesOf 41 = 24 := by kernel_rfl
@[simp] theorem tk_42 : tk Try.prog 42 = .slice 113 := by kernel_rfl
@[simp] theorem co_42 : Try.prog.cellsOf 42 = 1 := by kernel_rfl
@[simp] theorem cz_42 : csz Try.prog 42 = 1 := by kernel_rfl
@[simp] theorem ag_42 : aggB Try.prog 42 = false := by kernel_rfl
@[simp] theorem ze_42 : zeroV Try.prog 42 = some [.slice none 0 0] := by kernel_rfl
@[simp] theorem by_42 : Try.prog.bytesOf 42 = 24 := by kernel_rfl
@[simp] theorem tk_44 : tk Try.prog 44 = .struct [(0, 1, false), (1, 1, false), (2, 1, false), (3, 1, false)] := by kernel_rfl
@[simp] theorem co_44 : Try.prog.cellsOf 44 = 4 := by kernel_rfl
@[simp] theorem cz_44 : csz Try.prog 44 = 4 := by kernel_rfl
@[simp] theorem ag_44 : aggB Try.prog 44 = true := by kernel_rfl
@[simp] theorem ze_44 : zeroV Try.prog 44 = some [.slice none 0 0, .slice none 0 0, .slice none 0 0, .slice none 0 0] := by kernel_rfl
@[simp] theorem by_44 : Try.prog.bytesOf 44 = 96 := by kernel_rfl
@[simp] theorem tk_45 : tk Try.prog 45 = .slice 103 := by kernel_rfl
@[simp] theorem co_45 : Try.prog.cellsOf 45 = 1 := by kernel_rfl
@[simp] theorem cz_45 : csz Try.prog 45 = 1 := by kernel_rfl
@[simp] theorem ag_45 : aggB Try.prog 45 = false := by kernel_rfl
@[simp] theorem ze_45 : zeroV Try.prog 45 = some [.slice none 0 0] := by kernel_rfl
@[simp] theorem by_45 : Try.prog.bytesOf 45 = 24 := by kernel_rfl
@[simp] theorem tk_46 : tk Try.prog 46 = .slice 76 := by kernel_rfl
@[simp] theorem co_46 : Try.prog.cellsOf 46 = 1 := by kernel_rfl
@[simp] theorem cz_46 : csz Try.prog 46 = 1 := by kernel_rfl
@[simp] theorem ag_46 : aggB Try.prog 46 = false := by kernel_rfl
@[simp] theorem ze_46 : zeroV Try.prog 46 = some [.slice none 0 0] := by kernel_rfl
@[simp] theorem by_46 : Try.prog.bytesOf 46 = 24 := by kernel_rfl
@[simp] theorem tk_47 : tk Try.prog 47 = .slice 79 := by kernel_rfl
@[simp] theorem co_47 : Try.prog.cellsOf 47 = 1 := by kernel_rfl
@[simp] theorem cz_47 : csz Try.prog 47 = 1 := by kernel_rfl
@[simp] theorem ag_47 : aggB Try.prog 47 = false := by kernel_rfl
@[simp] theorem ze_47 : zeroV Try.prog 47 = some [.slice none 0 0] := by kernel_rfl
@[simp] theorem by_47 : Try.prog.bytesOf 47 = 24 := by kernel_rfl
@[simp] theorem tk_48 : tk Try.prog 48 = .struct [(0, 1, false), (1, 1, false), (2, 1, false), (3, 1, false), (4, 1, false)] := by kernel_rfl
@[simp] theorem co_48 : Try.prog.cellsOf 48 = 5 := by kernel_rfl
@[simp] theorem cz_48 : csz Try.prog 48 = 5 := by kernel_rfl
@[simp] theorem ag_48 : aggB Try.prog 48 = true := by kernel_rfl
@[simp] theorem ze_48 : zeroV Try.prog 48 = some [.float .f32 0, .float .f32 0, .float .f32 0, .float .f32 0, .int .i64 0] := by kernel_rfl
@[simp] theorem by_48 : Try.prog.bytesOf 48 = 24 := by kernel_rfl
@[simp] theorem tk_50 : tk Try.prog 50 = .struct [(0, 4, true), (4, 1, false), (5, 1, false), (6, 1, false), (7, 1, false), (8, 1, false), (9, 5, true)] := by kernel_rfl
@[simp] theorem co_50 : Try.prog.cellsOf 50 = 14 := by kernel_rfl
@[simp] theorem cz_50 : csz Try.prog 50 = 14 := by kernel_rfl
@[simp] theorem ag_50 : aggB Try.prog 50 = true := by kernel_rfl
@[simp] theorem ze_50 : zeroV Try.prog 50 = some [.slice none 0 0, .slice none 0 0, .slice none 0 0, .slice none 0 0, .slice none 0 0, .slice none 0 0, .slice none 0 0, .slice none 0 0, .int .i64 0, .float .f32 0, .float .f32 0, .float .f32 0, .float .f32 0, .int .i64 0] := by kernel_rfl
@[simp] theorem by_50 : Try.prog.bytesOf 50 = 224 := by kernel_rfl
@[simp] theorem tk_53 : tk Try.prog 53 = .flt .f64 := by kernel_rfl
@[simp] theorem co_53 : Try.prog.cellsOf 53 = 1 := by kernel_rfl
@[simp] theorem cz_53 : csz Try.prog 53 = 1 := by kernel_rfl
@[simp] theorem ag_53 : aggB Try.prog 53 = false := by kernel_rfl
@[simp] theorem ze_53 : zeroV Try.prog 53 = some [.float .f64 0] := by kernel_rfl
@[simp] theorem by_53 : Try.prog.bytesOf 53 = 8 := by kernel_rfl
@[simp] theorem tk_61 : tk Try.prog 61 = .ptr 50 := by kernel_rfl
@[simp] theorem co_61 : Try.prog.cellsOf 61 = 1 := by kernel_rfl
@[simp] theorem cz_61 : csz Try.prog 61 = 1 := by kernel_rfl
@[simp] theorem ag_61 : aggB Try.prog 61 = false := by kernel_rfl
@[simp] theorem ze_61 : zeroV Try.prog 61 = some [.pointer none] := by kernel_rfl
@[simp] theorem by_61 : Try.prog.bytesOf 61 = 8 := by kernel_rfl
@[simp] theorem tk_71 : tk Try.prog 71 = .slice 116 := by kernel_rfl
@[simp] theorem co_71 : Try.prog.cellsOf 71 = 1 := by kernel_rfl
@[simp] theorem cz_71 : csz Try.prog 71 = 1 := by kernel_rfl
@[simp] theorem ag_71 : aggB Try.prog 71 = false := by kernel_rfl
@[simp] theorem ze_71 : zeroV Try.prog 71 = some [.slice none 0 0] := by kernel_rfl
@[simp] theorem by_71 : Try.prog.bytesOf 71 = 24 := by kernel_rfl
@[simp] theorem tk_72 : tk Try.prog 72 = .int .i8 := by kernel_rfl
@[simp] theorem co_72 : Try.prog.cellsOf 72 = 1 := by kernel_rfl
@[simp] theorem cz_72 : csz Try.prog 72 = 1 := by kernel_rfl
@[simp] theorem ag_72 : aggB Try.prog 72 = false := by kernel_rfl
@[simp] theorem ze_72 : zeroV Try.prog 72 = some [.int .i8 0] := by kernel_rfl
@[simp] theorem by_72 : Try.prog.bytesOf 72 = 1 := by kernel_rfl
@[simp] theorem tk_74 : tk Try.prog 74 = .struct [(0, 1, false), (1, 1, false), (2, 1, false), (3, 1, false), (4, 1, false), (5, 1, false)] := by kernel_rfl
@[simp] theorem co_74 : Try.prog.cellsOf 74 = 6 := by kernel_rfl
@[simp] theorem cz_74 : csz Try.prog 74 = 6 := by kernel_rfl
@[simp] theorem ag_74 : aggB Try.prog 74 = true := by kernel_rfl
@[simp] theorem ze_74 : zeroV Try.prog 74 = some [.slice none 0 0, .float .f32 0, .float .f32 0, .int .i8 0, .int .i64 0, .float .f32 0] := by kernel_rfl
@[simp] theorem by_74 : Try.prog.bytesOf 74 = 56 := by kernel_rfl
@[simp] theorem tk_76 : tk Try.prog 76 = .struct [(0, 1, false), (1, 1, false), (2, 1, false), (3, 6, true)] := by kernel_rfl
@[simp] theorem co_76 : Try.prog.cellsOf 76 = 9 := by kernel_rfl
@[simp] theorem cz_76 : csz Try.prog 76 = 9 := by kernel_rfl
@[simp] theorem ag_76 : aggB Try.prog 76 = true := by kernel_rfl
@[simp] theorem ze_76 : zeroV Try.prog 76 = some [.int .i64 0, .int .i64 0, .int .i64 0, .slice none 0 0, .float .f32 0, .float .f32 0, .int .i8 0, .int .i64 0, .float .f32 0] := by kernel_rfl
@[simp] theorem by_76 : Try.prog.bytesOf 76 = 80 := by kernel_rfl
@[simp] theorem tk_79 : tk Try.prog 79 = .struct [(0, 1, false), (1, 1, false), (2, 1, false)] := by kernel_rfl
@[simp] theorem co_79 : Try.prog.cellsOf 79 = 3 := by kernel_rfl
@[simp] theorem cz_79 : csz Try.prog 79 = 3 := by kernel_rfl
@[simp] theorem ag_79 : aggB Try.prog 79 = true := by kernel_rfl
@[simp] theorem ze_79 : zeroV Try.prog 79 = some [.float .f32 0, .float .f32 0, .float .f32 0] := by kernel_rfl
@[simp] theorem by_79 : Try.prog.bytesOf 79 = 12 := by kernel_rfl
@[simp] theorem tk_88 : tk Try.prog 88 = .slice 147 := by kernel_rfl
@[simp] theorem co_88 : Try.prog.cellsOf 88 = 1 := by kernel_rfl
@[simp] theorem cz_88 : csz Try.prog 88 = 1 := by kernel_rfl
@[simp] theorem ag_88 : aggB Try.prog 88 = false := by kernel_rfl
@[simp] theorem ze_88 : zeroV Try.prog 88 = some [.slice none 0 0] := by kernel_rfl
@[simp] theorem by_88 : Try.prog.bytesOf 88 = 24 := by kernel_rfl
@[simp] theorem tk_90 : tk Try.prog 90 = .struct [(0, 1, false), (1, 1, false), (2, 1, false), (3, 1, false), (4, 1, false), (5, 1, false)] := by kernel_rfl
@[simp] theorem co_90 : Try.prog.cellsOf 90 = 6 := by kernel_rfl
@[simp] theorem cz_90 : csz Try.prog 90 = 6 := by kernel_rfl
@[simp] theorem ag_90 : aggB Try.prog 90 = true := by kernel_rfl
@[simp] theorem ze_90 : zeroV Try.prog 90 = some [.slice none 0 0, .float .f32 0, .float .f32 0, .int .i8 0, .int .i64 0, .float .f32 0] := by kernel_rfl
@[simp] theorem by_90 : Try.prog.bytesOf 90 = 56 := by kernel_rfl
@[simp] theorem tk_92 : tk Try.prog 92 = .struct [(0, 1, false), (1, 1, false), (2, 1, false), (3, 6, true)] := by kernel_rfl
@[simp] theorem co_92 : Try.prog.cellsOf 92 = 9 := by kernel_rfl
@[simp] theorem cz_92 : csz Try.prog 92 = 9 := by kernel_rfl
@[simp] theorem ag_92 : aggB Try.prog 92 = true := by kernel_rfl
@[simp] theorem ze_92 : zeroV Try.prog 92 = some [.int .i64 0, .int .i64 0, .int .i64 0, .slice none 0 0, .float .f32 0, .float .f32 0, .int .i8 0, .int .i64 0, .float .f32 0] := by kernel_rfl
@[simp] theorem by_92 : Try.prog.bytesOf 92 = 80 := by kernel_rfl
@[simp] theorem tk_94 : tk Try.prog 94 = .ptr 44 := by kernel_rfl
@[simp] theorem co_94 : Try.prog.cellsOf 94 = 1 := by kernel_rfl
@[simp] theorem cz_94 : csz Try.prog 94 = 1 := by kernel_rfl
@[simp] theorem ag_94 : aggB Try.prog 94 = false := by kernel_rfl
@[simp] theorem ze_94 : zeroV Try.prog 94 = some [.pointer none] := by kernel_rfl
@[simp] theorem by_94 : Try.prog.bytesOf 94 = 8 := by kernel_rfl
@[simp] theorem tk_103 : tk Try.prog 103 = .struct [(0, 1, false), (1, 1, false), (2, 1, false), (3, 1, false), (4, 1, false)] := by kernel_rfl
@[simp] theorem co_103 : Try.prog.cellsOf 103 = 5 := by kernel_rfl
@[simp] theorem cz_103 : csz Try.prog 103 = 5 := by kernel_rfl
@[simp] theorem ag_103 : aggB Try.prog 103 = true := by kernel_rfl
@[simp] theorem ze_103 : zeroV Try.prog 103 = some [.float .f32 0, .float .f32 0, .float .f32 0, .float .f32 0, .int .i64 0] := by kernel_rfl
@[simp] theorem by_103 : Try.prog.bytesOf 103 = 24 := by kernel_rfl
@[simp] theorem tk_105 : tk Try.prog 105 = .struct [(0, 1, false), (1, 1, false), (2, 1, false), (3, 1, false), (4, 1, false)] := by kernel_rfl
@[simp] theorem co_105 : Try.prog.cellsOf 105 = 5 := by kernel_rfl
@[simp] theorem cz_105 : csz Try.prog 105 = 5 := by kernel_rfl
@[simp] theorem ag_105 : aggB Try.prog 105 = true := by kernel_rfl
@[simp] theorem ze_105 : zeroV Try.prog 105 = some [.float .f32 0, .float .f32 0, .float .f32 0, .float .f32 0, .int .i64 0] := by kernel_rfl
@[simp] theorem by_105 : Try.prog.bytesOf 105 = 24 := by kernel_rfl
@[simp] theorem tk_108 : tk Try.prog 108 = .struct [(0, 1, false), (1, 1, false), (2, 1, false)] := by kernel_rfl
@[simp] theorem co_108 : Try.prog.cellsOf 108 = 3 := by kernel_rfl
@[simp] theorem cz_108 : csz Try.prog 108 = 3 := by kernel_rfl
@[simp] theorem ag_108 : aggB Try.prog 108 = true := by kernel_rfl
@[simp] theorem ze_108 : zeroV Try.prog 108 = some [.float .f32 0, .float .f32 0, .float .f32 0] := by kernel_rfl
@[simp] theorem by_108 : Try.prog.bytesOf 108 = 12 := by kernel_rfl
@[simp] theorem tk_109 : tk Try.prog 109 = .arr 4 22 := by kernel_rfl
@[simp] theorem co_109 : Try.prog.cellsOf 109 = 4 := by kernel_rfl
@[simp] theorem cz_109 : csz Try.prog 109 = 4 := by kernel_rfl
@[simp] theorem ag_109 : aggB Try.prog 109 = true := by kernel_rfl
@[simp] theorem ze_109 : zeroV Try.prog 109 = some [.float .f32 0, .float .f32 0, .float .f32 0, .float .f32 0] := by kernel_rfl
@[simp] theorem by_109 : Try.prog.bytesOf 109 = 16 := by kernel_rfl
@[simp] theorem tk_111 : tk Try.prog 111 = .struct [(0, 1, false), (1, 1, false), (2, 1, false), (3, 1, false), (4, 4, true)] := by kernel_rfl
@[simp] theorem co_111 : Try.prog.cellsOf 111 = 8 := by kernel_rfl
@[simp] theorem cz_111 : csz Try.prog 111 = 8 := by kernel_rfl
@[simp] theorem ag_111 : aggB Try.prog 111 = true := by kernel_rfl
@[simp] theorem ze_111 : zeroV Try.prog 111 = some [.int .i64 0, .int .i64 0, .float .f32 0, .float .f32 0, .float .f32 0, .float .f32 0, .float .f32 0, .float .f32 0] := by kernel_rfl
@[simp] theorem by_111 : Try.prog.bytesOf 111 = 40 := by kernel_rfl
@[simp] theorem tk_113 : tk Try.prog 113 = .struct [(0, 1, false), (1, 1, false), (2, 1, false), (3, 1, false)] := by kernel_rfl
@[simp] theorem co_113 : Try.prog.cellsOf 113 = 4 := by kernel_rfl
@[simp] theorem cz_113 : csz Try.prog 113 = 4 := by kernel_rfl
@[simp] theorem ag_113 : aggB Try.prog 113 = true := by kernel_rfl
@[simp] theorem ze_113 : zeroV Try.prog 113 = some [.int .i64 0, .int .i64 0, .float .f32 0, .float .f32 0] := by kernel_rfl
@[simp] theorem by_113 : Try.prog.bytesOf 113 = 24 := by kernel_rfl
@[simp] theorem tk_114 : tk Try.prog 114 = .arr 6 22 := by kernel_rfl
@[simp] theorem co_114 : Try.prog.cellsOf 114 = 6 := by kernel_rfl
@[simp] theorem cz_114 : csz Try.prog 114 = 6 := by kernel_rfl
@[simp] theorem ag_114 : aggB Try.prog 114 = true := by kernel_rfl
@[simp] theorem ze_114 : zeroV Try.prog 114 = some [.float .f32 0, .float .f32 0, .float .f32 0, .float .f32 0, .float .f32 0, .float .f32 0] := by kernel_rfl
@[simp] theorem by_114 : Try.prog.bytesOf 114 = 24 := by kernel_rfl
@[simp] theorem tk_116 : tk Try.prog 116 = .struct [(0, 6, true), (6, 6, true), (12, 6, true)] := by kernel_rfl
@[simp] theorem co_116 : Try.prog.cellsOf 116 = 18 := by kernel_rfl
@[simp] theorem cz_116 : csz Try.prog 116 = 18 := by kernel_rfl
@[simp] theorem ag_116 : aggB Try.prog 116 = true := by kernel_rfl
@[simp] theorem ze_116 : zeroV Try.prog 116 = some [.float .f32 0, .float .f32 0, .float .f32 0, .float .f32 0, .float .f32 0, .float .f32 0, .float .f32 0, .float .f32 0, .float .f32 0, .float .f32 0, .float .f32 0, .float .f32 0, .float .f32 0, .float .f32 0, .float .f32 0, .float .f32 0, .float .f32 0, .float .f32 0] := by kernel_rfl
@[simp] theorem by_116 : Try.prog.bytesOf 116 = 72 := by kernel_rfl
@[simp] theorem tk_128 : tk Try.prog 128 = .ptr 74 := by kernel_rfl
@[simp] theorem co_128 : Try.prog.cellsOf 128 = 1 := by kernel_rfl
@[simp] theorem cz_128 : csz Try.prog 128 = 1 := by kernel_rfl
@[simp] theorem ag_128 : aggB Try.prog 128 = false := by kernel_rfl
@[simp] theorem ze_128 : zeroV Try.prog 128 = some [.pointer none] := by kernel_rfl
@[simp] theorem by_128 : Try.prog.bytesOf 128 = 8 := by kernel_rfl
@[simp] theorem tk_129 : tk Try.prog 129 = .int .u32 := by kernel_rfl
@[simp] theorem co_129 : Try.prog.cellsOf 129 = 1 := by kernel_rfl
@[simp] theorem cz_129 : csz Try.prog 129 = 1 := by kernel_rfl
@[simp] theorem ag_129 : aggB Try.prog 129 = false := by kernel_rfl
@[simp] theorem ze_129 : zeroV Try.prog 129 = some [.int .u32 0] := by kernel_rfl
@[simp] theorem by_129 : Try.prog.bytesOf 129 = 4 := by kernel_rfl
@[simp] theorem tk_132 : tk Try.prog 132 = .struct [(0, 1, false), (1, 1, false), (2, 1, false), (3, 1, false), (4, 4, true)] := by kernel_rfl
@[simp] theorem co_132 : Try.prog.cellsOf 132 = 8 := by kernel_rfl
@[simp] theorem cz_132 : csz Try.prog 132 = 8 := by kernel_rfl
@[simp] theorem ag_132 : aggB Try.prog 132 = true := by kernel_rfl
@[simp] theorem ze_132 : zeroV Try.prog 132 = some [.int .i64 0, .int .i64 0, .float .f32 0, .float .f32 0, .float .f32 0, .float .f32 0, .float .f32 0, .float .f32 0] := by kernel_rfl
@[simp] theorem by_132 : Try.prog.bytesOf 132 = 40 := by kernel_rfl
@[simp] theorem tk_134 : tk Try.prog 134 = .struct [(0, 1, false), (1, 1, false), (2, 1, false), (3, 1, false)] := by kernel_rfl
@[simp] theorem co_134 : Try.prog.cellsOf 134 = 4 := by kernel_rfl
@[simp] theorem cz_134 : csz Try.prog 134 = 4 := by kernel_rfl
@[simp] theorem ag_134 : aggB Try.prog 134 = true := by kernel_rfl
@[simp] theorem ze_134 : zeroV Try.prog 134 = some [.int .i64 0, .int .i64 0, .float .f32 0, .float .f32 0] := by kernel_rfl
@[simp] theorem by_134 : Try.prog.bytesOf 134 = 24 := by kernel_rfl
@[simp] theorem tk_140 : tk Try.prog 140 = .ptr 116 := by kernel_rfl
@[simp] theorem co_140 : Try.prog.cellsOf 140 = 1 := by kernel_rfl
@[simp] theorem cz_140 : csz Try.prog 140 = 1 := by kernel_rfl
@[simp] theorem ag_140 : aggB Try.prog 140 = false := by kernel_rfl
@[simp] theorem ze_140 : zeroV Try.prog 140 = some [.pointer none] := by kernel_rfl
@[simp] theorem by_140 : Try.prog.bytesOf 140 = 8 := by kernel_rfl
@[simp] theorem tk_147 : tk Try.prog 147 = .struct [(0, 6, true), (6, 6, true), (12, 6, true)] := by kernel_rfl
@[simp] theorem co_147 : Try.prog.cellsOf 147 = 18 := by kernel_rfl
@[simp] theorem cz_147 : csz Try.prog 147 = 18 := by kernel_rfl
@[simp] theorem ag_147 : aggB Try.prog 147 = true := by kernel_rfl
@[simp] theorem ze_147 : zeroV Try.prog 147 = some [.float .f32 0, .float .f32 0, .float .f32 0, .float .f32 0, .float .f32 0, .float .f32 0, .float .f32 0, .float .f32 0, .float .f32 0, .float .f32 0, .float .f32 0, .float .f32 0, .float .f32 0, .float .f32 0, .float .f32 0, .float .f32 0, .float .f32 0, .float .f32 0] := by kernel_rfl
@[simp] theorem by_147 : Try.prog.bytesOf 147 = 72 := by kernel_rfl
theorem mixed : Try.prog.follows .mixedOrders = true := by kernel_rfl
@[simp] def cf_f32 (x : F32) : List V := [.f .f32 x]
instance : Pln cf_f32 := ⟨fun x => by simp⟩
@[simp] theorem cf_f32_len {x : F32} : (cf_f32 x).length = 1 := rfl
@[simp] theorem cf_f32_set {xs : List F32} {i : Nat} {a : F32} : (rows cf_f32 xs).set i [.f .f32 a] = rows cf_f32 (xs.set i a) := rows_set (c := cf_f32) (x := a)
@[simp] theorem cf_f32_snoc {xs : List F32} {a : F32} : rows cf_f32 xs ++ [[.f .f32 a]] = rows cf_f32 (xs ++ [a]) := rows_snoc (c := cf_f32) (x := a)
@[simp] theorem cf_f32_rep {n : Nat} {a : F32} : List.replicate n [.f .f32 a] = rows cf_f32 (List.replicate n a) := rows_rep (c := cf_f32) (x := a)
theorem cf_f32_inj (x y : F32) (h : cf_f32 x = cf_f32 y) : x = y := by
  simp only [cf_f32, List.cons.injEq, V.i.injEq, V.b.injEq, V.f.injEq, V.str.injEq, V.sl.injEq, V.own.injEq, true_and, and_true] at h
  simp_all
structure T109 where
  a0_ : F32
  a1_ : F32
  a2_ : F32
  a3_ : F32
structure T132 where
  a_ : Int
  b_ : Int
  lead_ : F32
  store_ : F32
  heat_ : T109
@[simp] def cT132 (x : T132) : List V := [.i .i64 x.a_, .i .i64 x.b_, .f .f32 x.lead_, .f .f32 x.store_, .f .f32 x.heat_.a0_, .f .f32 x.heat_.a1_, .f .f32 x.heat_.a2_, .f .f32 x.heat_.a3_]
instance : Pln cT132 := ⟨fun x => by simp⟩
@[simp] theorem cT132_len {x : T132} : (cT132 x).length = 8 := rfl
@[simp] theorem cT132_set {xs : List T132} {i : Nat} {a0 : Int} {a1 : Int} {a2 : F32} {a3 : F32} {a4 : F32} {a5 : F32} {a6 : F32} {a7 : F32} : (rows cT132 xs).set i [.i .i64 a0, .i .i64 a1, .f .f32 a2, .f .f32 a3, .f .f32 a4, .f .f32 a5, .f .f32 a6, .f .f32 a7] = rows cT132 (xs.set i (⟨a0, a1, a2, a3, (⟨a4, a5, a6, a7⟩ : T109)⟩ : T132)) := rows_set (c := cT132) (x := (⟨a0, a1, a2, a3, (⟨a4, a5, a6, a7⟩ : T109)⟩ : T132))
@[simp] theorem cT132_snoc {xs : List T132} {a0 : Int} {a1 : Int} {a2 : F32} {a3 : F32} {a4 : F32} {a5 : F32} {a6 : F32} {a7 : F32} : rows cT132 xs ++ [[.i .i64 a0, .i .i64 a1, .f .f32 a2, .f .f32 a3, .f .f32 a4, .f .f32 a5, .f .f32 a6, .f .f32 a7]] = rows cT132 (xs ++ [(⟨a0, a1, a2, a3, (⟨a4, a5, a6, a7⟩ : T109)⟩ : T132)]) := rows_snoc (c := cT132) (x := (⟨a0, a1, a2, a3, (⟨a4, a5, a6, a7⟩ : T109)⟩ : T132))
@[simp] theorem cT132_rep {n : Nat} {a0 : Int} {a1 : Int} {a2 : F32} {a3 : F32} {a4 : F32} {a5 : F32} {a6 : F32} {a7 : F32} : List.replicate n [.i .i64 a0, .i .i64 a1, .f .f32 a2, .f .f32 a3, .f .f32 a4, .f .f32 a5, .f .f32 a6, .f .f32 a7] = rows cT132 (List.replicate n (⟨a0, a1, a2, a3, (⟨a4, a5, a6, a7⟩ : T109)⟩ : T132)) := rows_rep (c := cT132) (x := (⟨a0, a1, a2, a3, (⟨a4, a5, a6, a7⟩ : T109)⟩ : T132))
theorem cT132_inj (x y : T132) (h : cT132 x = cT132 y) : x = y := by
  obtain ⟨i5, i6, i7, i8, ⟨i9, i10, i11, i12⟩⟩ := x
  obtain ⟨i13, i14, i15, i16, ⟨i17, i18, i19, i20⟩⟩ := y
  simp only [cT132, List.cons.injEq, V.i.injEq, V.b.injEq, V.f.injEq, V.str.injEq, V.sl.injEq, V.own.injEq, true_and, and_true] at h
  simp_all
structure T134 where
  a_ : Int
  b_ : Int
  lead_ : F32
  sun_ : F32
@[simp] def cT134 (x : T134) : List V := [.i .i64 x.a_, .i .i64 x.b_, .f .f32 x.lead_, .f .f32 x.sun_]
instance : Pln cT134 := ⟨fun x => by simp⟩
@[simp] theorem cT134_len {x : T134} : (cT134 x).length = 4 := rfl
@[simp] theorem cT134_set {xs : List T134} {i : Nat} {a0 : Int} {a1 : Int} {a2 : F32} {a3 : F32} : (rows cT134 xs).set i [.i .i64 a0, .i .i64 a1, .f .f32 a2, .f .f32 a3] = rows cT134 (xs.set i (⟨a0, a1, a2, a3⟩ : T134)) := rows_set (c := cT134) (x := (⟨a0, a1, a2, a3⟩ : T134))
@[simp] theorem cT134_snoc {xs : List T134} {a0 : Int} {a1 : Int} {a2 : F32} {a3 : F32} : rows cT134 xs ++ [[.i .i64 a0, .i .i64 a1, .f .f32 a2, .f .f32 a3]] = rows cT134 (xs ++ [(⟨a0, a1, a2, a3⟩ : T134)]) := rows_snoc (c := cT134) (x := (⟨a0, a1, a2, a3⟩ : T134))
@[simp] theorem cT134_rep {n : Nat} {a0 : Int} {a1 : Int} {a2 : F32} {a3 : F32} : List.replicate n [.i .i64 a0, .i .i64 a1, .f .f32 a2, .f .f32 a3] = rows cT134 (List.replicate n (⟨a0, a1, a2, a3⟩ : T134)) := rows_rep (c := cT134) (x := (⟨a0, a1, a2, a3⟩ : T134))
theorem cT134_inj (x y : T134) (h : cT134 x = cT134 y) : x = y := by
  obtain ⟨i25, i26, i27, i28⟩ := x
  obtain ⟨i29, i30, i31, i32⟩ := y
  simp only [cT134, List.cons.injEq, V.i.injEq, V.b.injEq, V.f.injEq, V.str.injEq, V.sl.injEq, V.own.injEq, true_and, and_true] at h
  simp_all
structure T30 where
  heat_ : List F32
  store_ : List F32
  walls_ : List T132
  panes_ : List T134
def pT30 (x : T30) : List V := [.sl 1 (rows cf_f32 x.heat_), .sl 1 (rows cf_f32 x.store_), .sl 8 (rows cT132 x.walls_), .sl 4 (rows cT134 x.panes_)]
section
variable {x : T30}
@[simp] theorem pT30_len : (pT30 x).length = 4 := rfl
@[simp] theorem pT30_0 : (pT30 x)[0]? = some (.sl 1 (rows cf_f32 x.heat_)) := rfl
@[simp] theorem pT30_g0 (h : 0 < (pT30 x).length) : (pT30 x)[0] = .sl 1 (rows cf_f32 x.heat_) := rfl
@[simp] theorem pT30_1 : (pT30 x)[1]? = some (.sl 1 (rows cf_f32 x.store_)) := rfl
@[simp] theorem pT30_g1 (h : 1 < (pT30 x).length) : (pT30 x)[1] = .sl 1 (rows cf_f32 x.store_) := rfl
@[simp] theorem pT30_2 : (pT30 x)[2]? = some (.sl 8 (rows cT132 x.walls_)) := rfl
@[simp] theorem pT30_g2 (h : 2 < (pT30 x).length) : (pT30 x)[2] = .sl 8 (rows cT132 x.walls_) := rfl
@[simp] theorem pT30_3 : (pT30 x)[3]? = some (.sl 4 (rows cT134 x.panes_)) := rfl
@[simp] theorem pT30_g3 (h : 3 < (pT30 x).length) : (pT30 x)[3] = .sl 4 (rows cT134 x.panes_) := rfl
@[simp] theorem pT30_un1 : (pT30 x).map un1 = pT30 x := rfl
@[simp] theorem pT30_snap : snapL (pT30 x) = true := by simp [pT30]
@[simp] theorem pT30_cell : (pT30 x).all cellV = true := by simp [pT30]
@[simp high] theorem pT30_vc : vcells (.agg (pT30 x)) = some (pT30 x) := by simp [pT30]
@[simp] theorem pT30_noB {b : Nat} : (pT30 x).all (noBV b) = true := by simp [pT30]
@[simp] theorem pT30_bnd {k : Nat} : (pT30 x).all (bndV k) = true := by simp [pT30, bndV]
@[simp] theorem pT30_re {m : VM} : vreL1 m (pT30 x) = some (pT30 x) := by simp [pT30]
end
@[simp] def cT30 (x : T30) : List V := [.sl 1 (rows cf_f32 x.heat_), .sl 1 (rows cf_f32 x.store_), .sl 8 (rows cT132 x.walls_), .sl 4 (rows cT134 x.panes_)]
instance : Snp cT30 := ⟨fun x => by simp, fun x => by simp⟩
@[simp] theorem cT30_len {x : T30} : (cT30 x).length = 4 := rfl
@[simp] theorem cT30_set {xs : List T30} {i : Nat} {a0 : List F32} {a1 : List F32} {a2 : List T132} {a3 : List T134} : (rows cT30 xs).set i [.sl 1 (rows cf_f32 a0), .sl 1 (rows cf_f32 a1), .sl 8 (rows cT132 a2), .sl 4 (rows cT134 a3)] = rows cT30 (xs.set i (⟨a0, a1, a2, a3⟩ : T30)) := rows_set (c := cT30) (x := (⟨a0, a1, a2, a3⟩ : T30))
@[simp] theorem cT30_snoc {xs : List T30} {a0 : List F32} {a1 : List F32} {a2 : List T132} {a3 : List T134} : rows cT30 xs ++ [[.sl 1 (rows cf_f32 a0), .sl 1 (rows cf_f32 a1), .sl 8 (rows cT132 a2), .sl 4 (rows cT134 a3)]] = rows cT30 (xs ++ [(⟨a0, a1, a2, a3⟩ : T30)]) := rows_snoc (c := cT30) (x := (⟨a0, a1, a2, a3⟩ : T30))
@[simp] theorem cT30_rep {n : Nat} {a0 : List F32} {a1 : List F32} {a2 : List T132} {a3 : List T134} : List.replicate n [.sl 1 (rows cf_f32 a0), .sl 1 (rows cf_f32 a1), .sl 8 (rows cT132 a2), .sl 4 (rows cT134 a3)] = rows cT30 (List.replicate n (⟨a0, a1, a2, a3⟩ : T30)) := rows_rep (c := cT30) (x := (⟨a0, a1, a2, a3⟩ : T30))
theorem cT30_inj (x y : T30) (h : cT30 x = cT30 y) : x = y := by
  obtain ⟨i37, i38, i39, i40⟩ := x
  obtain ⟨i41, i42, i43, i44⟩ := y
  simp only [cT30, List.cons.injEq, V.i.injEq, V.b.injEq, V.f.injEq, V.str.injEq, V.sl.injEq, V.own.injEq, true_and, and_true] at h
  simp_all [ri cT132_inj, ri cT134_inj, ri cf_f32_inj]
structure T105 where
  burnt_ : F32
  steam_ : F32
  up_ : F32
  lost_ : F32
  smoky_ : Int
@[simp] def cT105 (x : T105) : List V := [.f .f32 x.burnt_, .f .f32 x.steam_, .f .f32 x.up_, .f .f32 x.lost_, .i .i64 x.smoky_]
instance : Pln cT105 := ⟨fun x => by simp⟩
@[simp] theorem cT105_len {x : T105} : (cT105 x).length = 5 := rfl
@[simp] theorem cT105_set {xs : List T105} {i : Nat} {a0 : F32} {a1 : F32} {a2 : F32} {a3 : F32} {a4 : Int} : (rows cT105 xs).set i [.f .f32 a0, .f .f32 a1, .f .f32 a2, .f .f32 a3, .i .i64 a4] = rows cT105 (xs.set i (⟨a0, a1, a2, a3, a4⟩ : T105)) := rows_set (c := cT105) (x := (⟨a0, a1, a2, a3, a4⟩ : T105))
@[simp] theorem cT105_snoc {xs : List T105} {a0 : F32} {a1 : F32} {a2 : F32} {a3 : F32} {a4 : Int} : rows cT105 xs ++ [[.f .f32 a0, .f .f32 a1, .f .f32 a2, .f .f32 a3, .i .i64 a4]] = rows cT105 (xs ++ [(⟨a0, a1, a2, a3, a4⟩ : T105)]) := rows_snoc (c := cT105) (x := (⟨a0, a1, a2, a3, a4⟩ : T105))
@[simp] theorem cT105_rep {n : Nat} {a0 : F32} {a1 : F32} {a2 : F32} {a3 : F32} {a4 : Int} : List.replicate n [.f .f32 a0, .f .f32 a1, .f .f32 a2, .f .f32 a3, .i .i64 a4] = rows cT105 (List.replicate n (⟨a0, a1, a2, a3, a4⟩ : T105)) := rows_rep (c := cT105) (x := (⟨a0, a1, a2, a3, a4⟩ : T105))
theorem cT105_inj (x y : T105) (h : cT105 x = cT105 y) : x = y := by
  obtain ⟨i55, i56, i57, i58, i59⟩ := x
  obtain ⟨i60, i61, i62, i63, i64⟩ := y
  simp only [cT105, List.cons.injEq, V.i.injEq, V.b.injEq, V.f.injEq, V.str.injEq, V.sl.injEq, V.own.injEq, true_and, and_true] at h
  simp_all
structure T114 where
  a0_ : F32
  a1_ : F32
  a2_ : F32
  a3_ : F32
  a4_ : F32
  a5_ : F32
structure T147 where
  wet_ : T114
  heat_ : T114
  fuel_ : T114
@[simp] def cT147 (x : T147) : List V := [.f .f32 x.wet_.a0_, .f .f32 x.wet_.a1_, .f .f32 x.wet_.a2_, .f .f32 x.wet_.a3_, .f .f32 x.wet_.a4_, .f .f32 x.wet_.a5_, .f .f32 x.heat_.a0_, .f .f32 x.heat_.a1_, .f .f32 x.heat_.a2_, .f .f32 x.heat_.a3_, .f .f32 x.heat_.a4_, .f .f32 x.heat_.a5_, .f .f32 x.fuel_.a0_, .f .f32 x.fuel_.a1_, .f .f32 x.fuel_.a2_, .f .f32 x.fuel_.a3_, .f .f32 x.fuel_.a4_, .f .f32 x.fuel_.a5_]
instance : Pln cT147 := ⟨fun x => by simp⟩
@[simp] theorem cT147_len {x : T147} : (cT147 x).length = 18 := rfl
@[simp] theorem cT147_set {xs : List T147} {i : Nat} {a0 : F32} {a1 : F32} {a2 : F32} {a3 : F32} {a4 : F32} {a5 : F32} {a6 : F32} {a7 : F32} {a8 : F32} {a9 : F32} {a10 : F32} {a11 : F32} {a12 : F32} {a13 : F32} {a14 : F32} {a15 : F32} {a16 : F32} {a17 : F32} : (rows cT147 xs).set i [.f .f32 a0, .f .f32 a1, .f .f32 a2, .f .f32 a3, .f .f32 a4, .f .f32 a5, .f .f32 a6, .f .f32 a7, .f .f32 a8, .f .f32 a9, .f .f32 a10, .f .f32 a11, .f .f32 a12, .f .f32 a13, .f .f32 a14, .f .f32 a15, .f .f32 a16, .f .f32 a17] = rows cT147 (xs.set i (⟨(⟨a0, a1, a2, a3, a4, a5⟩ : T114), (⟨a6, a7, a8, a9, a10, a11⟩ : T114), (⟨a12, a13, a14, a15, a16, a17⟩ : T114)⟩ : T147)) := rows_set (c := cT147) (x := (⟨(⟨a0, a1, a2, a3, a4, a5⟩ : T114), (⟨a6, a7, a8, a9, a10, a11⟩ : T114), (⟨a12, a13, a14, a15, a16, a17⟩ : T114)⟩ : T147))
@[simp] theorem cT147_snoc {xs : List T147} {a0 : F32} {a1 : F32} {a2 : F32} {a3 : F32} {a4 : F32} {a5 : F32} {a6 : F32} {a7 : F32} {a8 : F32} {a9 : F32} {a10 : F32} {a11 : F32} {a12 : F32} {a13 : F32} {a14 : F32} {a15 : F32} {a16 : F32} {a17 : F32} : rows cT147 xs ++ [[.f .f32 a0, .f .f32 a1, .f .f32 a2, .f .f32 a3, .f .f32 a4, .f .f32 a5, .f .f32 a6, .f .f32 a7, .f .f32 a8, .f .f32 a9, .f .f32 a10, .f .f32 a11, .f .f32 a12, .f .f32 a13, .f .f32 a14, .f .f32 a15, .f .f32 a16, .f .f32 a17]] = rows cT147 (xs ++ [(⟨(⟨a0, a1, a2, a3, a4, a5⟩ : T114), (⟨a6, a7, a8, a9, a10, a11⟩ : T114), (⟨a12, a13, a14, a15, a16, a17⟩ : T114)⟩ : T147)]) := rows_snoc (c := cT147) (x := (⟨(⟨a0, a1, a2, a3, a4, a5⟩ : T114), (⟨a6, a7, a8, a9, a10, a11⟩ : T114), (⟨a12, a13, a14, a15, a16, a17⟩ : T114)⟩ : T147))
@[simp] theorem cT147_rep {n : Nat} {a0 : F32} {a1 : F32} {a2 : F32} {a3 : F32} {a4 : F32} {a5 : F32} {a6 : F32} {a7 : F32} {a8 : F32} {a9 : F32} {a10 : F32} {a11 : F32} {a12 : F32} {a13 : F32} {a14 : F32} {a15 : F32} {a16 : F32} {a17 : F32} : List.replicate n [.f .f32 a0, .f .f32 a1, .f .f32 a2, .f .f32 a3, .f .f32 a4, .f .f32 a5, .f .f32 a6, .f .f32 a7, .f .f32 a8, .f .f32 a9, .f .f32 a10, .f .f32 a11, .f .f32 a12, .f .f32 a13, .f .f32 a14, .f .f32 a15, .f .f32 a16, .f .f32 a17] = rows cT147 (List.replicate n (⟨(⟨a0, a1, a2, a3, a4, a5⟩ : T114), (⟨a6, a7, a8, a9, a10, a11⟩ : T114), (⟨a12, a13, a14, a15, a16, a17⟩ : T114)⟩ : T147)) := rows_rep (c := cT147) (x := (⟨(⟨a0, a1, a2, a3, a4, a5⟩ : T114), (⟨a6, a7, a8, a9, a10, a11⟩ : T114), (⟨a12, a13, a14, a15, a16, a17⟩ : T114)⟩ : T147))
theorem cT147_inj (x y : T147) (h : cT147 x = cT147 y) : x = y := by
  obtain ⟨⟨i69, i70, i71, i72, i73, i74⟩, ⟨i75, i76, i77, i78, i79, i80⟩, ⟨i81, i82, i83, i84, i85, i86⟩⟩ := x
  obtain ⟨⟨i87, i88, i89, i90, i91, i92⟩, ⟨i93, i94, i95, i96, i97, i98⟩, ⟨i99, i100, i101, i102, i103, i104⟩⟩ := y
  simp only [cT147, List.cons.injEq, V.i.injEq, V.b.injEq, V.f.injEq, V.str.injEq, V.sl.injEq, V.own.injEq, true_and, and_true] at h
  simp_all
structure T90 where
  logs_ : List T147
  box_ : F32
  damper_ : F32
  state_ : Int
  ash_ : Int
  dust_ : F32
def pT90 (x : T90) : List V := [.sl 18 (rows cT147 x.logs_), .f .f32 x.box_, .f .f32 x.damper_, .i .i8 x.state_, .i .i64 x.ash_, .f .f32 x.dust_]
section
variable {x : T90}
@[simp] theorem pT90_len : (pT90 x).length = 6 := rfl
@[simp] theorem pT90_0 : (pT90 x)[0]? = some (.sl 18 (rows cT147 x.logs_)) := rfl
@[simp] theorem pT90_g0 (h : 0 < (pT90 x).length) : (pT90 x)[0] = .sl 18 (rows cT147 x.logs_) := rfl
@[simp] theorem pT90_1 : (pT90 x)[1]? = some (.f .f32 x.box_) := rfl
@[simp] theorem pT90_g1 (h : 1 < (pT90 x).length) : (pT90 x)[1] = .f .f32 x.box_ := rfl
@[simp] theorem pT90_2 : (pT90 x)[2]? = some (.f .f32 x.damper_) := rfl
@[simp] theorem pT90_g2 (h : 2 < (pT90 x).length) : (pT90 x)[2] = .f .f32 x.damper_ := rfl
@[simp] theorem pT90_3 : (pT90 x)[3]? = some (.i .i8 x.state_) := rfl
@[simp] theorem pT90_g3 (h : 3 < (pT90 x).length) : (pT90 x)[3] = .i .i8 x.state_ := rfl
@[simp] theorem pT90_4 : (pT90 x)[4]? = some (.i .i64 x.ash_) := rfl
@[simp] theorem pT90_g4 (h : 4 < (pT90 x).length) : (pT90 x)[4] = .i .i64 x.ash_ := rfl
@[simp] theorem pT90_5 : (pT90 x)[5]? = some (.f .f32 x.dust_) := rfl
@[simp] theorem pT90_g5 (h : 5 < (pT90 x).length) : (pT90 x)[5] = .f .f32 x.dust_ := rfl
@[simp] theorem pT90_un1 : (pT90 x).map un1 = pT90 x := rfl
@[simp] theorem pT90_snap : snapL (pT90 x) = true := by simp [pT90]
@[simp] theorem pT90_cell : (pT90 x).all cellV = true := by simp [pT90]
@[simp high] theorem pT90_vc : vcells (.agg (pT90 x)) = some (pT90 x) := by simp [pT90]
@[simp] theorem pT90_noB {b : Nat} : (pT90 x).all (noBV b) = true := by simp [pT90]
@[simp] theorem pT90_bnd {k : Nat} : (pT90 x).all (bndV k) = true := by simp [pT90, bndV]
@[simp] theorem pT90_re {m : VM} : vreL1 m (pT90 x) = some (pT90 x) := by simp [pT90]
end
@[simp] def cT90 (x : T90) : List V := [.sl 18 (rows cT147 x.logs_), .f .f32 x.box_, .f .f32 x.damper_, .i .i8 x.state_, .i .i64 x.ash_, .f .f32 x.dust_]
instance : Snp cT90 := ⟨fun x => by simp, fun x => by simp⟩
@[simp] theorem cT90_len {x : T90} : (cT90 x).length = 6 := rfl
@[simp] theorem cT90_set {xs : List T90} {i : Nat} {a0 : List T147} {a1 : F32} {a2 : F32} {a3 : Int} {a4 : Int} {a5 : F32} : (rows cT90 xs).set i [.sl 18 (rows cT147 a0), .f .f32 a1, .f .f32 a2, .i .i8 a3, .i .i64 a4, .f .f32 a5] = rows cT90 (xs.set i (⟨a0, a1, a2, a3, a4, a5⟩ : T90)) := rows_set (c := cT90) (x := (⟨a0, a1, a2, a3, a4, a5⟩ : T90))
@[simp] theorem cT90_snoc {xs : List T90} {a0 : List T147} {a1 : F32} {a2 : F32} {a3 : Int} {a4 : Int} {a5 : F32} : rows cT90 xs ++ [[.sl 18 (rows cT147 a0), .f .f32 a1, .f .f32 a2, .i .i8 a3, .i .i64 a4, .f .f32 a5]] = rows cT90 (xs ++ [(⟨a0, a1, a2, a3, a4, a5⟩ : T90)]) := rows_snoc (c := cT90) (x := (⟨a0, a1, a2, a3, a4, a5⟩ : T90))
@[simp] theorem cT90_rep {n : Nat} {a0 : List T147} {a1 : F32} {a2 : F32} {a3 : Int} {a4 : Int} {a5 : F32} : List.replicate n [.sl 18 (rows cT147 a0), .f .f32 a1, .f .f32 a2, .i .i8 a3, .i .i64 a4, .f .f32 a5] = rows cT90 (List.replicate n (⟨a0, a1, a2, a3, a4, a5⟩ : T90)) := rows_rep (c := cT90) (x := (⟨a0, a1, a2, a3, a4, a5⟩ : T90))
theorem cT90_inj (x y : T90) (h : cT90 x = cT90 y) : x = y := by
  obtain ⟨i109, i110, i111, i112, i113, i114⟩ := x
  obtain ⟨i115, i116, i117, i118, i119, i120⟩ := y
  simp only [cT90, List.cons.injEq, V.i.injEq, V.b.injEq, V.f.injEq, V.str.injEq, V.sl.injEq, V.own.injEq, true_and, and_true] at h
  simp_all [ri cT147_inj]
structure T92 where
  room_ : Int
  flue_ : Int
  brain_ : Int
  stove_ : T90
def pT92 (x : T92) : List V := [.i .i64 x.room_, .i .i64 x.flue_, .i .i64 x.brain_, .sl 18 (rows cT147 x.stove_.logs_), .f .f32 x.stove_.box_, .f .f32 x.stove_.damper_, .i .i8 x.stove_.state_, .i .i64 x.stove_.ash_, .f .f32 x.stove_.dust_]
section
variable {x : T92}
@[simp] theorem pT92_len : (pT92 x).length = 9 := rfl
@[simp] theorem pT92_0 : (pT92 x)[0]? = some (.i .i64 x.room_) := rfl
@[simp] theorem pT92_g0 (h : 0 < (pT92 x).length) : (pT92 x)[0] = .i .i64 x.room_ := rfl
@[simp] theorem pT92_1 : (pT92 x)[1]? = some (.i .i64 x.flue_) := rfl
@[simp] theorem pT92_g1 (h : 1 < (pT92 x).length) : (pT92 x)[1] = .i .i64 x.flue_ := rfl
@[simp] theorem pT92_2 : (pT92 x)[2]? = some (.i .i64 x.brain_) := rfl
@[simp] theorem pT92_g2 (h : 2 < (pT92 x).length) : (pT92 x)[2] = .i .i64 x.brain_ := rfl
@[simp] theorem pT92_3 : (pT92 x)[3]? = some (.sl 18 (rows cT147 x.stove_.logs_)) := rfl
@[simp] theorem pT92_g3 (h : 3 < (pT92 x).length) : (pT92 x)[3] = .sl 18 (rows cT147 x.stove_.logs_) := rfl
@[simp] theorem pT92_4 : (pT92 x)[4]? = some (.f .f32 x.stove_.box_) := rfl
@[simp] theorem pT92_g4 (h : 4 < (pT92 x).length) : (pT92 x)[4] = .f .f32 x.stove_.box_ := rfl
@[simp] theorem pT92_5 : (pT92 x)[5]? = some (.f .f32 x.stove_.damper_) := rfl
@[simp] theorem pT92_g5 (h : 5 < (pT92 x).length) : (pT92 x)[5] = .f .f32 x.stove_.damper_ := rfl
@[simp] theorem pT92_6 : (pT92 x)[6]? = some (.i .i8 x.stove_.state_) := rfl
@[simp] theorem pT92_g6 (h : 6 < (pT92 x).length) : (pT92 x)[6] = .i .i8 x.stove_.state_ := rfl
@[simp] theorem pT92_7 : (pT92 x)[7]? = some (.i .i64 x.stove_.ash_) := rfl
@[simp] theorem pT92_g7 (h : 7 < (pT92 x).length) : (pT92 x)[7] = .i .i64 x.stove_.ash_ := rfl
@[simp] theorem pT92_8 : (pT92 x)[8]? = some (.f .f32 x.stove_.dust_) := rfl
@[simp] theorem pT92_g8 (h : 8 < (pT92 x).length) : (pT92 x)[8] = .f .f32 x.stove_.dust_ := rfl
@[simp] theorem pT92_d3 : (pT92 x).drop 3 = [.sl 18 (rows cT147 x.stove_.logs_), .f .f32 x.stove_.box_, .f .f32 x.stove_.damper_, .i .i8 x.stove_.state_, .i .i64 x.stove_.ash_, .f .f32 x.stove_.dust_] := rfl
@[simp] theorem pT92_s3_6 : ((pT92 x).drop 3).take 6 = [.sl 18 (rows cT147 x.stove_.logs_), .f .f32 x.stove_.box_, .f .f32 x.stove_.damper_, .i .i8 x.stove_.state_, .i .i64 x.stove_.ash_, .f .f32 x.stove_.dust_] := rfl
@[simp] theorem pT92_un1 : (pT92 x).map un1 = pT92 x := rfl
@[simp] theorem pT92_snap : snapL (pT92 x) = true := by simp [pT92]
@[simp] theorem pT92_cell : (pT92 x).all cellV = true := by simp [pT92]
@[simp high] theorem pT92_vc : vcells (.agg (pT92 x)) = some (pT92 x) := by simp [pT92]
@[simp] theorem pT92_noB {b : Nat} : (pT92 x).all (noBV b) = true := by simp [pT92]
@[simp] theorem pT92_bnd {k : Nat} : (pT92 x).all (bndV k) = true := by simp [pT92, bndV]
@[simp] theorem pT92_re {m : VM} : vreL1 m (pT92 x) = some (pT92 x) := by simp [pT92]
end
@[simp] def cT92 (x : T92) : List V := [.i .i64 x.room_, .i .i64 x.flue_, .i .i64 x.brain_, .sl 18 (rows cT147 x.stove_.logs_), .f .f32 x.stove_.box_, .f .f32 x.stove_.damper_, .i .i8 x.stove_.state_, .i .i64 x.stove_.ash_, .f .f32 x.stove_.dust_]
instance : Snp cT92 := ⟨fun x => by simp, fun x => by simp⟩
@[simp] theorem cT92_len {x : T92} : (cT92 x).length = 9 := rfl
@[simp] theorem cT92_set {xs : List T92} {i : Nat} {a0 : Int} {a1 : Int} {a2 : Int} {a3 : List T147} {a4 : F32} {a5 : F32} {a6 : Int} {a7 : Int} {a8 : F32} : (rows cT92 xs).set i [.i .i64 a0, .i .i64 a1, .i .i64 a2, .sl 18 (rows cT147 a3), .f .f32 a4, .f .f32 a5, .i .i8 a6, .i .i64 a7, .f .f32 a8] = rows cT92 (xs.set i (⟨a0, a1, a2, (⟨a3, a4, a5, a6, a7, a8⟩ : T90)⟩ : T92)) := rows_set (c := cT92) (x := (⟨a0, a1, a2, (⟨a3, a4, a5, a6, a7, a8⟩ : T90)⟩ : T92))
@[simp] theorem cT92_snoc {xs : List T92} {a0 : Int} {a1 : Int} {a2 : Int} {a3 : List T147} {a4 : F32} {a5 : F32} {a6 : Int} {a7 : Int} {a8 : F32} : rows cT92 xs ++ [[.i .i64 a0, .i .i64 a1, .i .i64 a2, .sl 18 (rows cT147 a3), .f .f32 a4, .f .f32 a5, .i .i8 a6, .i .i64 a7, .f .f32 a8]] = rows cT92 (xs ++ [(⟨a0, a1, a2, (⟨a3, a4, a5, a6, a7, a8⟩ : T90)⟩ : T92)]) := rows_snoc (c := cT92) (x := (⟨a0, a1, a2, (⟨a3, a4, a5, a6, a7, a8⟩ : T90)⟩ : T92))
@[simp] theorem cT92_rep {n : Nat} {a0 : Int} {a1 : Int} {a2 : Int} {a3 : List T147} {a4 : F32} {a5 : F32} {a6 : Int} {a7 : Int} {a8 : F32} : List.replicate n [.i .i64 a0, .i .i64 a1, .i .i64 a2, .sl 18 (rows cT147 a3), .f .f32 a4, .f .f32 a5, .i .i8 a6, .i .i64 a7, .f .f32 a8] = rows cT92 (List.replicate n (⟨a0, a1, a2, (⟨a3, a4, a5, a6, a7, a8⟩ : T90)⟩ : T92)) := rows_rep (c := cT92) (x := (⟨a0, a1, a2, (⟨a3, a4, a5, a6, a7, a8⟩ : T90)⟩ : T92))
theorem cT92_inj (x y : T92) (h : cT92 x = cT92 y) : x = y := by
  obtain ⟨i135, i136, i137, ⟨i138, i139, i140, i141, i142, i143⟩⟩ := x
  obtain ⟨i144, i145, i146, ⟨i147, i148, i149, i150, i151, i152⟩⟩ := y
  simp only [cT92, List.cons.injEq, V.i.injEq, V.b.injEq, V.f.injEq, V.str.injEq, V.sl.injEq, V.own.injEq, true_and, and_true] at h
  simp_all [ri cT147_inj]
@[simp] def cs_ (x : ByteArray) : List V := [.str x]
instance : Pln cs_ := ⟨fun x => by simp⟩
@[simp] theorem cs__len {x : ByteArray} : (cs_ x).length = 1 := rfl
@[simp] theorem cs__set {xs : List ByteArray} {i : Nat} {a : ByteArray} : (rows cs_ xs).set i [.str a] = rows cs_ (xs.set i a) := rows_set (c := cs_) (x := a)
@[simp] theorem cs__snoc {xs : List ByteArray} {a : ByteArray} : rows cs_ xs ++ [[.str a]] = rows cs_ (xs ++ [a]) := rows_snoc (c := cs_) (x := a)
@[simp] theorem cs__rep {n : Nat} {a : ByteArray} : List.replicate n [.str a] = rows cs_ (List.replicate n a) := rows_rep (c := cs_) (x := a)
theorem cs__inj (x y : ByteArray) (h : cs_ x = cs_ y) : x = y := by
  simp only [cs_, List.cons.injEq, V.i.injEq, V.b.injEq, V.f.injEq, V.str.injEq, V.sl.injEq, V.own.injEq, true_and, and_true] at h
  simp_all
structure T108 where
  outside_ : F32
  sun_ : F32
  wind_ : F32
@[simp] def cT108 (x : T108) : List V := [.f .f32 x.outside_, .f .f32 x.sun_, .f .f32 x.wind_]
instance : Pln cT108 := ⟨fun x => by simp⟩
@[simp] theorem cT108_len {x : T108} : (cT108 x).length = 3 := rfl
@[simp] theorem cT108_set {xs : List T108} {i : Nat} {a0 : F32} {a1 : F32} {a2 : F32} : (rows cT108 xs).set i [.f .f32 a0, .f .f32 a1, .f .f32 a2] = rows cT108 (xs.set i (⟨a0, a1, a2⟩ : T108)) := rows_set (c := cT108) (x := (⟨a0, a1, a2⟩ : T108))
@[simp] theorem cT108_snoc {xs : List T108} {a0 : F32} {a1 : F32} {a2 : F32} : rows cT108 xs ++ [[.f .f32 a0, .f .f32 a1, .f .f32 a2]] = rows cT108 (xs ++ [(⟨a0, a1, a2⟩ : T108)]) := rows_snoc (c := cT108) (x := (⟨a0, a1, a2⟩ : T108))
@[simp] theorem cT108_rep {n : Nat} {a0 : F32} {a1 : F32} {a2 : F32} : List.replicate n [.f .f32 a0, .f .f32 a1, .f .f32 a2] = rows cT108 (List.replicate n (⟨a0, a1, a2⟩ : T108)) := rows_rep (c := cT108) (x := (⟨a0, a1, a2⟩ : T108))
theorem cT108_inj (x y : T108) (h : cT108 x = cT108 y) : x = y := by
  obtain ⟨i181, i182, i183⟩ := x
  obtain ⟨i184, i185, i186⟩ := y
  simp only [cT108, List.cons.injEq, V.i.injEq, V.b.injEq, V.f.injEq, V.str.injEq, V.sl.injEq, V.own.injEq, true_and, and_true] at h
  simp_all
structure T38 where
  flat_ : T30
  chimney_ : List T105
  hearths_ : List T92
  sources_ : List ByteArray
  hours_ : List T108
  tick_ : Int
  sums_ : T105
def pT38 (x : T38) : List V := [.sl 1 (rows cf_f32 x.flat_.heat_), .sl 1 (rows cf_f32 x.flat_.store_), .sl 8 (rows cT132 x.flat_.walls_), .sl 4 (rows cT134 x.flat_.panes_), .sl 5 (rows cT105 x.chimney_), .sl 9 (rows cT92 x.hearths_), .sl 1 (rows cs_ x.sources_), .sl 3 (rows cT108 x.hours_), .i .i64 x.tick_, .f .f32 x.sums_.burnt_, .f .f32 x.sums_.steam_, .f .f32 x.sums_.up_, .f .f32 x.sums_.lost_, .i .i64 x.sums_.smoky_]
section
variable {x : T38}
@[simp] theorem pT38_len : (pT38 x).length = 14 := rfl
@[simp] theorem pT38_0 : (pT38 x)[0]? = some (.sl 1 (rows cf_f32 x.flat_.heat_)) := rfl
@[simp] theorem pT38_g0 (h : 0 < (pT38 x).length) : (pT38 x)[0] = .sl 1 (rows cf_f32 x.flat_.heat_) := rfl
@[simp] theorem pT38_1 : (pT38 x)[1]? = some (.sl 1 (rows cf_f32 x.flat_.store_)) := rfl
@[simp] theorem pT38_g1 (h : 1 < (pT38 x).length) : (pT38 x)[1] = .sl 1 (rows cf_f32 x.flat_.store_) := rfl
@[simp] theorem pT38_2 : (pT38 x)[2]? = some (.sl 8 (rows cT132 x.flat_.walls_)) := rfl
@[simp] theorem pT38_g2 (h : 2 < (pT38 x).length) : (pT38 x)[2] = .sl 8 (rows cT132 x.flat_.walls_) := rfl
@[simp] theorem pT38_3 : (pT38 x)[3]? = some (.sl 4 (rows cT134 x.flat_.panes_)) := rfl
@[simp] theorem pT38_g3 (h : 3 < (pT38 x).length) : (pT38 x)[3] = .sl 4 (rows cT134 x.flat_.panes_) := rfl
@[simp] theorem pT38_4 : (pT38 x)[4]? = some (.sl 5 (rows cT105 x.chimney_)) := rfl
@[simp] theorem pT38_g4 (h : 4 < (pT38 x).length) : (pT38 x)[4] = .sl 5 (rows cT105 x.chimney_) := rfl
@[simp] theorem pT38_5 : (pT38 x)[5]? = some (.sl 9 (rows cT92 x.hearths_)) := rfl
@[simp] theorem pT38_g5 (h : 5 < (pT38 x).length) : (pT38 x)[5] = .sl 9 (rows cT92 x.hearths_) := rfl
@[simp] theorem pT38_6 : (pT38 x)[6]? = some (.sl 1 (rows cs_ x.sources_)) := rfl
@[simp] theorem pT38_g6 (h : 6 < (pT38 x).length) : (pT38 x)[6] = .sl 1 (rows cs_ x.sources_) := rfl
@[simp] theorem pT38_7 : (pT38 x)[7]? = some (.sl 3 (rows cT108 x.hours_)) := rfl
@[simp] theorem pT38_g7 (h : 7 < (pT38 x).length) : (pT38 x)[7] = .sl 3 (rows cT108 x.hours_) := rfl
@[simp] theorem pT38_8 : (pT38 x)[8]? = some (.i .i64 x.tick_) := rfl
@[simp] theorem pT38_g8 (h : 8 < (pT38 x).length) : (pT38 x)[8] = .i .i64 x.tick_ := rfl
@[simp] theorem pT38_9 : (pT38 x)[9]? = some (.f .f32 x.sums_.burnt_) := rfl
@[simp] theorem pT38_g9 (h : 9 < (pT38 x).length) : (pT38 x)[9] = .f .f32 x.sums_.burnt_ := rfl
@[simp] theorem pT38_10 : (pT38 x)[10]? = some (.f .f32 x.sums_.steam_) := rfl
@[simp] theorem pT38_g10 (h : 10 < (pT38 x).length) : (pT38 x)[10] = .f .f32 x.sums_.steam_ := rfl
@[simp] theorem pT38_11 : (pT38 x)[11]? = some (.f .f32 x.sums_.up_) := rfl
@[simp] theorem pT38_g11 (h : 11 < (pT38 x).length) : (pT38 x)[11] = .f .f32 x.sums_.up_ := rfl
@[simp] theorem pT38_12 : (pT38 x)[12]? = some (.f .f32 x.sums_.lost_) := rfl
@[simp] theorem pT38_g12 (h : 12 < (pT38 x).length) : (pT38 x)[12] = .f .f32 x.sums_.lost_ := rfl
@[simp] theorem pT38_13 : (pT38 x)[13]? = some (.i .i64 x.sums_.smoky_) := rfl
@[simp] theorem pT38_g13 (h : 13 < (pT38 x).length) : (pT38 x)[13] = .i .i64 x.sums_.smoky_ := rfl
@[simp] theorem pT38_s0_4 : (pT38 x).take 4 = [.sl 1 (rows cf_f32 x.flat_.heat_), .sl 1 (rows cf_f32 x.flat_.store_), .sl 8 (rows cT132 x.flat_.walls_), .sl 4 (rows cT134 x.flat_.panes_)] := rfl
@[simp] theorem pT38_d9 : (pT38 x).drop 9 = [.f .f32 x.sums_.burnt_, .f .f32 x.sums_.steam_, .f .f32 x.sums_.up_, .f .f32 x.sums_.lost_, .i .i64 x.sums_.smoky_] := rfl
@[simp] theorem pT38_s9_5 : ((pT38 x).drop 9).take 5 = [.f .f32 x.sums_.burnt_, .f .f32 x.sums_.steam_, .f .f32 x.sums_.up_, .f .f32 x.sums_.lost_, .i .i64 x.sums_.smoky_] := rfl
@[simp] theorem pT38_un1 : (pT38 x).map un1 = pT38 x := rfl
@[simp] theorem pT38_snap : snapL (pT38 x) = true := by simp [pT38]
@[simp] theorem pT38_cell : (pT38 x).all cellV = true := by simp [pT38]
@[simp high] theorem pT38_vc : vcells (.agg (pT38 x)) = some (pT38 x) := by simp [pT38]
@[simp] theorem pT38_noB {b : Nat} : (pT38 x).all (noBV b) = true := by simp [pT38]
@[simp] theorem pT38_bnd {k : Nat} : (pT38 x).all (bndV k) = true := by simp [pT38, bndV]
@[simp] theorem pT38_re {m : VM} : vreL1 m (pT38 x) = some (pT38 x) := by simp [pT38]
end
@[simp] def cT38 (x : T38) : List V := [.sl 1 (rows cf_f32 x.flat_.heat_), .sl 1 (rows cf_f32 x.flat_.store_), .sl 8 (rows cT132 x.flat_.walls_), .sl 4 (rows cT134 x.flat_.panes_), .sl 5 (rows cT105 x.chimney_), .sl 9 (rows cT92 x.hearths_), .sl 1 (rows cs_ x.sources_), .sl 3 (rows cT108 x.hours_), .i .i64 x.tick_, .f .f32 x.sums_.burnt_, .f .f32 x.sums_.steam_, .f .f32 x.sums_.up_, .f .f32 x.sums_.lost_, .i .i64 x.sums_.smoky_]
instance : Snp cT38 := ⟨fun x => by simp, fun x => by simp⟩
@[simp] theorem cT38_len {x : T38} : (cT38 x).length = 14 := rfl
@[simp] theorem cT38_set {xs : List T38} {i : Nat} {a0 : List F32} {a1 : List F32} {a2 : List T132} {a3 : List T134} {a4 : List T105} {a5 : List T92} {a6 : List ByteArray} {a7 : List T108} {a8 : Int} {a9 : F32} {a10 : F32} {a11 : F32} {a12 : F32} {a13 : Int} : (rows cT38 xs).set i [.sl 1 (rows cf_f32 a0), .sl 1 (rows cf_f32 a1), .sl 8 (rows cT132 a2), .sl 4 (rows cT134 a3), .sl 5 (rows cT105 a4), .sl 9 (rows cT92 a5), .sl 1 (rows cs_ a6), .sl 3 (rows cT108 a7), .i .i64 a8, .f .f32 a9, .f .f32 a10, .f .f32 a11, .f .f32 a12, .i .i64 a13] = rows cT38 (xs.set i (⟨(⟨a0, a1, a2, a3⟩ : T30), a4, a5, a6, a7, a8, (⟨a9, a10, a11, a12, a13⟩ : T105)⟩ : T38)) := rows_set (c := cT38) (x := (⟨(⟨a0, a1, a2, a3⟩ : T30), a4, a5, a6, a7, a8, (⟨a9, a10, a11, a12, a13⟩ : T105)⟩ : T38))
@[simp] theorem cT38_snoc {xs : List T38} {a0 : List F32} {a1 : List F32} {a2 : List T132} {a3 : List T134} {a4 : List T105} {a5 : List T92} {a6 : List ByteArray} {a7 : List T108} {a8 : Int} {a9 : F32} {a10 : F32} {a11 : F32} {a12 : F32} {a13 : Int} : rows cT38 xs ++ [[.sl 1 (rows cf_f32 a0), .sl 1 (rows cf_f32 a1), .sl 8 (rows cT132 a2), .sl 4 (rows cT134 a3), .sl 5 (rows cT105 a4), .sl 9 (rows cT92 a5), .sl 1 (rows cs_ a6), .sl 3 (rows cT108 a7), .i .i64 a8, .f .f32 a9, .f .f32 a10, .f .f32 a11, .f .f32 a12, .i .i64 a13]] = rows cT38 (xs ++ [(⟨(⟨a0, a1, a2, a3⟩ : T30), a4, a5, a6, a7, a8, (⟨a9, a10, a11, a12, a13⟩ : T105)⟩ : T38)]) := rows_snoc (c := cT38) (x := (⟨(⟨a0, a1, a2, a3⟩ : T30), a4, a5, a6, a7, a8, (⟨a9, a10, a11, a12, a13⟩ : T105)⟩ : T38))
@[simp] theorem cT38_rep {n : Nat} {a0 : List F32} {a1 : List F32} {a2 : List T132} {a3 : List T134} {a4 : List T105} {a5 : List T92} {a6 : List ByteArray} {a7 : List T108} {a8 : Int} {a9 : F32} {a10 : F32} {a11 : F32} {a12 : F32} {a13 : Int} : List.replicate n [.sl 1 (rows cf_f32 a0), .sl 1 (rows cf_f32 a1), .sl 8 (rows cT132 a2), .sl 4 (rows cT134 a3), .sl 5 (rows cT105 a4), .sl 9 (rows cT92 a5), .sl 1 (rows cs_ a6), .sl 3 (rows cT108 a7), .i .i64 a8, .f .f32 a9, .f .f32 a10, .f .f32 a11, .f .f32 a12, .i .i64 a13] = rows cT38 (List.replicate n (⟨(⟨a0, a1, a2, a3⟩ : T30), a4, a5, a6, a7, a8, (⟨a9, a10, a11, a12, a13⟩ : T105)⟩ : T38)) := rows_rep (c := cT38) (x := (⟨(⟨a0, a1, a2, a3⟩ : T30), a4, a5, a6, a7, a8, (⟨a9, a10, a11, a12, a13⟩ : T105)⟩ : T38))
theorem cT38_inj (x y : T38) (h : cT38 x = cT38 y) : x = y := by
  obtain ⟨⟨i191, i192, i193, i194⟩, i195, i196, i197, i198, i199, ⟨i200, i201, i202, i203, i204⟩⟩ := x
  obtain ⟨⟨i205, i206, i207, i208⟩, i209, i210, i211, i212, i213, ⟨i214, i215, i216, i217, i218⟩⟩ := y
  simp only [cT38, List.cons.injEq, V.i.injEq, V.b.injEq, V.f.injEq, V.str.injEq, V.sl.injEq, V.own.injEq, true_and, and_true] at h
  simp_all [ri cT105_inj, ri cT108_inj, ri cT132_inj, ri cT134_inj, ri cT92_inj, ri cf_f32_inj, ri cs__inj]
def pT114 (x : T114) : List V := [.f .f32 x.a0_, .f .f32 x.a1_, .f .f32 x.a2_, .f .f32 x.a3_, .f .f32 x.a4_, .f .f32 x.a5_]
section
variable {x : T114}
@[simp] theorem pT114_len : (pT114 x).length = 6 := rfl
@[simp] theorem pT114_0 : (pT114 x)[0]? = some (.f .f32 x.a0_) := rfl
@[simp] theorem pT114_g0 (h : 0 < (pT114 x).length) : (pT114 x)[0] = .f .f32 x.a0_ := rfl
@[simp] theorem pT114_1 : (pT114 x)[1]? = some (.f .f32 x.a1_) := rfl
@[simp] theorem pT114_g1 (h : 1 < (pT114 x).length) : (pT114 x)[1] = .f .f32 x.a1_ := rfl
@[simp] theorem pT114_2 : (pT114 x)[2]? = some (.f .f32 x.a2_) := rfl
@[simp] theorem pT114_g2 (h : 2 < (pT114 x).length) : (pT114 x)[2] = .f .f32 x.a2_ := rfl
@[simp] theorem pT114_3 : (pT114 x)[3]? = some (.f .f32 x.a3_) := rfl
@[simp] theorem pT114_g3 (h : 3 < (pT114 x).length) : (pT114 x)[3] = .f .f32 x.a3_ := rfl
@[simp] theorem pT114_4 : (pT114 x)[4]? = some (.f .f32 x.a4_) := rfl
@[simp] theorem pT114_g4 (h : 4 < (pT114 x).length) : (pT114 x)[4] = .f .f32 x.a4_ := rfl
@[simp] theorem pT114_5 : (pT114 x)[5]? = some (.f .f32 x.a5_) := rfl
@[simp] theorem pT114_g5 (h : 5 < (pT114 x).length) : (pT114 x)[5] = .f .f32 x.a5_ := rfl
@[simp] theorem pT114_c0 : chunks 1 6 ((pT114 x).drop 0) = rows cf_f32 [x.a0_, x.a1_, x.a2_, x.a3_, x.a4_, x.a5_] := rfl
@[simp] theorem pT114_c : chunks 1 6 (pT114 x) = rows cf_f32 [x.a0_, x.a1_, x.a2_, x.a3_, x.a4_, x.a5_] := rfl
@[simp] theorem pT114_un1 : (pT114 x).map un1 = pT114 x := rfl
@[simp] theorem pT114_snap : snapL (pT114 x) = true := by simp [pT114]
@[simp] theorem pT114_cell : (pT114 x).all cellV = true := by simp [pT114]
@[simp high] theorem pT114_vc : vcells (.agg (pT114 x)) = some (pT114 x) := by simp [pT114]
@[simp] theorem pT114_noB {b : Nat} : (pT114 x).all (noBV b) = true := by simp [pT114]
@[simp] theorem pT114_bnd {k : Nat} : (pT114 x).all (bndV k) = true := by simp [pT114, bndV]
@[simp] theorem pT114_re {m : VM} : vreL1 m (pT114 x) = some (pT114 x) := by simp [pT114]
end
@[simp] def cT114 (x : T114) : List V := [.f .f32 x.a0_, .f .f32 x.a1_, .f .f32 x.a2_, .f .f32 x.a3_, .f .f32 x.a4_, .f .f32 x.a5_]
instance : Pln cT114 := ⟨fun x => by simp⟩
@[simp] theorem cT114_len {x : T114} : (cT114 x).length = 6 := rfl
@[simp] theorem cT114_set {xs : List T114} {i : Nat} {a0 : F32} {a1 : F32} {a2 : F32} {a3 : F32} {a4 : F32} {a5 : F32} : (rows cT114 xs).set i [.f .f32 a0, .f .f32 a1, .f .f32 a2, .f .f32 a3, .f .f32 a4, .f .f32 a5] = rows cT114 (xs.set i (⟨a0, a1, a2, a3, a4, a5⟩ : T114)) := rows_set (c := cT114) (x := (⟨a0, a1, a2, a3, a4, a5⟩ : T114))
@[simp] theorem cT114_snoc {xs : List T114} {a0 : F32} {a1 : F32} {a2 : F32} {a3 : F32} {a4 : F32} {a5 : F32} : rows cT114 xs ++ [[.f .f32 a0, .f .f32 a1, .f .f32 a2, .f .f32 a3, .f .f32 a4, .f .f32 a5]] = rows cT114 (xs ++ [(⟨a0, a1, a2, a3, a4, a5⟩ : T114)]) := rows_snoc (c := cT114) (x := (⟨a0, a1, a2, a3, a4, a5⟩ : T114))
@[simp] theorem cT114_rep {n : Nat} {a0 : F32} {a1 : F32} {a2 : F32} {a3 : F32} {a4 : F32} {a5 : F32} : List.replicate n [.f .f32 a0, .f .f32 a1, .f .f32 a2, .f .f32 a3, .f .f32 a4, .f .f32 a5] = rows cT114 (List.replicate n (⟨a0, a1, a2, a3, a4, a5⟩ : T114)) := rows_rep (c := cT114) (x := (⟨a0, a1, a2, a3, a4, a5⟩ : T114))
theorem cT114_inj (x y : T114) (h : cT114 x = cT114 y) : x = y := by
  obtain ⟨i277, i278, i279, i280, i281, i282⟩ := x
  obtain ⟨i283, i284, i285, i286, i287, i288⟩ := y
  simp only [cT114, List.cons.injEq, V.i.injEq, V.b.injEq, V.f.injEq, V.str.injEq, V.sl.injEq, V.own.injEq, true_and, and_true] at h
  simp_all
def pT147 (x : T147) : List V := [.f .f32 x.wet_.a0_, .f .f32 x.wet_.a1_, .f .f32 x.wet_.a2_, .f .f32 x.wet_.a3_, .f .f32 x.wet_.a4_, .f .f32 x.wet_.a5_, .f .f32 x.heat_.a0_, .f .f32 x.heat_.a1_, .f .f32 x.heat_.a2_, .f .f32 x.heat_.a3_, .f .f32 x.heat_.a4_, .f .f32 x.heat_.a5_, .f .f32 x.fuel_.a0_, .f .f32 x.fuel_.a1_, .f .f32 x.fuel_.a2_, .f .f32 x.fuel_.a3_, .f .f32 x.fuel_.a4_, .f .f32 x.fuel_.a5_]
section
variable {x : T147}
@[simp] theorem pT147_len : (pT147 x).length = 18 := rfl
@[simp] theorem pT147_0 : (pT147 x)[0]? = some (.f .f32 x.wet_.a0_) := rfl
@[simp] theorem pT147_g0 (h : 0 < (pT147 x).length) : (pT147 x)[0] = .f .f32 x.wet_.a0_ := rfl
@[simp] theorem pT147_1 : (pT147 x)[1]? = some (.f .f32 x.wet_.a1_) := rfl
@[simp] theorem pT147_g1 (h : 1 < (pT147 x).length) : (pT147 x)[1] = .f .f32 x.wet_.a1_ := rfl
@[simp] theorem pT147_2 : (pT147 x)[2]? = some (.f .f32 x.wet_.a2_) := rfl
@[simp] theorem pT147_g2 (h : 2 < (pT147 x).length) : (pT147 x)[2] = .f .f32 x.wet_.a2_ := rfl
@[simp] theorem pT147_3 : (pT147 x)[3]? = some (.f .f32 x.wet_.a3_) := rfl
@[simp] theorem pT147_g3 (h : 3 < (pT147 x).length) : (pT147 x)[3] = .f .f32 x.wet_.a3_ := rfl
@[simp] theorem pT147_4 : (pT147 x)[4]? = some (.f .f32 x.wet_.a4_) := rfl
@[simp] theorem pT147_g4 (h : 4 < (pT147 x).length) : (pT147 x)[4] = .f .f32 x.wet_.a4_ := rfl
@[simp] theorem pT147_5 : (pT147 x)[5]? = some (.f .f32 x.wet_.a5_) := rfl
@[simp] theorem pT147_g5 (h : 5 < (pT147 x).length) : (pT147 x)[5] = .f .f32 x.wet_.a5_ := rfl
@[simp] theorem pT147_6 : (pT147 x)[6]? = some (.f .f32 x.heat_.a0_) := rfl
@[simp] theorem pT147_g6 (h : 6 < (pT147 x).length) : (pT147 x)[6] = .f .f32 x.heat_.a0_ := rfl
@[simp] theorem pT147_7 : (pT147 x)[7]? = some (.f .f32 x.heat_.a1_) := rfl
@[simp] theorem pT147_g7 (h : 7 < (pT147 x).length) : (pT147 x)[7] = .f .f32 x.heat_.a1_ := rfl
@[simp] theorem pT147_8 : (pT147 x)[8]? = some (.f .f32 x.heat_.a2_) := rfl
@[simp] theorem pT147_g8 (h : 8 < (pT147 x).length) : (pT147 x)[8] = .f .f32 x.heat_.a2_ := rfl
@[simp] theorem pT147_9 : (pT147 x)[9]? = some (.f .f32 x.heat_.a3_) := rfl
@[simp] theorem pT147_g9 (h : 9 < (pT147 x).length) : (pT147 x)[9] = .f .f32 x.heat_.a3_ := rfl
@[simp] theorem pT147_10 : (pT147 x)[10]? = some (.f .f32 x.heat_.a4_) := rfl
@[simp] theorem pT147_g10 (h : 10 < (pT147 x).length) : (pT147 x)[10] = .f .f32 x.heat_.a4_ := rfl
@[simp] theorem pT147_11 : (pT147 x)[11]? = some (.f .f32 x.heat_.a5_) := rfl
@[simp] theorem pT147_g11 (h : 11 < (pT147 x).length) : (pT147 x)[11] = .f .f32 x.heat_.a5_ := rfl
@[simp] theorem pT147_12 : (pT147 x)[12]? = some (.f .f32 x.fuel_.a0_) := rfl
@[simp] theorem pT147_g12 (h : 12 < (pT147 x).length) : (pT147 x)[12] = .f .f32 x.fuel_.a0_ := rfl
@[simp] theorem pT147_13 : (pT147 x)[13]? = some (.f .f32 x.fuel_.a1_) := rfl
@[simp] theorem pT147_g13 (h : 13 < (pT147 x).length) : (pT147 x)[13] = .f .f32 x.fuel_.a1_ := rfl
@[simp] theorem pT147_14 : (pT147 x)[14]? = some (.f .f32 x.fuel_.a2_) := rfl
@[simp] theorem pT147_g14 (h : 14 < (pT147 x).length) : (pT147 x)[14] = .f .f32 x.fuel_.a2_ := rfl
@[simp] theorem pT147_15 : (pT147 x)[15]? = some (.f .f32 x.fuel_.a3_) := rfl
@[simp] theorem pT147_g15 (h : 15 < (pT147 x).length) : (pT147 x)[15] = .f .f32 x.fuel_.a3_ := rfl
@[simp] theorem pT147_16 : (pT147 x)[16]? = some (.f .f32 x.fuel_.a4_) := rfl
@[simp] theorem pT147_g16 (h : 16 < (pT147 x).length) : (pT147 x)[16] = .f .f32 x.fuel_.a4_ := rfl
@[simp] theorem pT147_17 : (pT147 x)[17]? = some (.f .f32 x.fuel_.a5_) := rfl
@[simp] theorem pT147_g17 (h : 17 < (pT147 x).length) : (pT147 x)[17] = .f .f32 x.fuel_.a5_ := rfl
@[simp] theorem pT147_s0_6 : (pT147 x).take 6 = [.f .f32 x.wet_.a0_, .f .f32 x.wet_.a1_, .f .f32 x.wet_.a2_, .f .f32 x.wet_.a3_, .f .f32 x.wet_.a4_, .f .f32 x.wet_.a5_] := rfl
@[simp] theorem pT147_s6_6 : ((pT147 x).drop 6).take 6 = [.f .f32 x.heat_.a0_, .f .f32 x.heat_.a1_, .f .f32 x.heat_.a2_, .f .f32 x.heat_.a3_, .f .f32 x.heat_.a4_, .f .f32 x.heat_.a5_] := rfl
@[simp] theorem pT147_d12 : (pT147 x).drop 12 = [.f .f32 x.fuel_.a0_, .f .f32 x.fuel_.a1_, .f .f32 x.fuel_.a2_, .f .f32 x.fuel_.a3_, .f .f32 x.fuel_.a4_, .f .f32 x.fuel_.a5_] := rfl
@[simp] theorem pT147_s12_6 : ((pT147 x).drop 12).take 6 = [.f .f32 x.fuel_.a0_, .f .f32 x.fuel_.a1_, .f .f32 x.fuel_.a2_, .f .f32 x.fuel_.a3_, .f .f32 x.fuel_.a4_, .f .f32 x.fuel_.a5_] := rfl
@[simp] theorem pT147_c0 : chunks 1 6 ((pT147 x).drop 0) = rows cf_f32 [x.wet_.a0_, x.wet_.a1_, x.wet_.a2_, x.wet_.a3_, x.wet_.a4_, x.wet_.a5_] := rfl
@[simp] theorem pT147_c : chunks 1 6 (pT147 x) = rows cf_f32 [x.wet_.a0_, x.wet_.a1_, x.wet_.a2_, x.wet_.a3_, x.wet_.a4_, x.wet_.a5_] := rfl
@[simp] theorem pT147_c6 : chunks 1 6 ((pT147 x).drop 6) = rows cf_f32 [x.heat_.a0_, x.heat_.a1_, x.heat_.a2_, x.heat_.a3_, x.heat_.a4_, x.heat_.a5_] := rfl
@[simp] theorem pT147_c12 : chunks 1 6 ((pT147 x).drop 12) = rows cf_f32 [x.fuel_.a0_, x.fuel_.a1_, x.fuel_.a2_, x.fuel_.a3_, x.fuel_.a4_, x.fuel_.a5_] := rfl
@[simp] theorem pT147_un1 : (pT147 x).map un1 = pT147 x := rfl
@[simp] theorem pT147_snap : snapL (pT147 x) = true := by simp [pT147]
@[simp] theorem pT147_cell : (pT147 x).all cellV = true := by simp [pT147]
@[simp high] theorem pT147_vc : vcells (.agg (pT147 x)) = some (pT147 x) := by simp [pT147]
@[simp] theorem pT147_noB {b : Nat} : (pT147 x).all (noBV b) = true := by simp [pT147]
@[simp] theorem pT147_bnd {k : Nat} : (pT147 x).all (bndV k) = true := by simp [pT147, bndV]
@[simp] theorem pT147_re {m : VM} : vreL1 m (pT147 x) = some (pT147 x) := by simp [pT147]
end
def pT109 (x : T109) : List V := [.f .f32 x.a0_, .f .f32 x.a1_, .f .f32 x.a2_, .f .f32 x.a3_]
section
variable {x : T109}
@[simp] theorem pT109_len : (pT109 x).length = 4 := rfl
@[simp] theorem pT109_0 : (pT109 x)[0]? = some (.f .f32 x.a0_) := rfl
@[simp] theorem pT109_g0 (h : 0 < (pT109 x).length) : (pT109 x)[0] = .f .f32 x.a0_ := rfl
@[simp] theorem pT109_1 : (pT109 x)[1]? = some (.f .f32 x.a1_) := rfl
@[simp] theorem pT109_g1 (h : 1 < (pT109 x).length) : (pT109 x)[1] = .f .f32 x.a1_ := rfl
@[simp] theorem pT109_2 : (pT109 x)[2]? = some (.f .f32 x.a2_) := rfl
@[simp] theorem pT109_g2 (h : 2 < (pT109 x).length) : (pT109 x)[2] = .f .f32 x.a2_ := rfl
@[simp] theorem pT109_3 : (pT109 x)[3]? = some (.f .f32 x.a3_) := rfl
@[simp] theorem pT109_g3 (h : 3 < (pT109 x).length) : (pT109 x)[3] = .f .f32 x.a3_ := rfl
@[simp] theorem pT109_c0 : chunks 1 4 ((pT109 x).drop 0) = rows cf_f32 [x.a0_, x.a1_, x.a2_, x.a3_] := rfl
@[simp] theorem pT109_c : chunks 1 4 (pT109 x) = rows cf_f32 [x.a0_, x.a1_, x.a2_, x.a3_] := rfl
@[simp] theorem pT109_un1 : (pT109 x).map un1 = pT109 x := rfl
@[simp] theorem pT109_snap : snapL (pT109 x) = true := by simp [pT109]
@[simp] theorem pT109_cell : (pT109 x).all cellV = true := by simp [pT109]
@[simp high] theorem pT109_vc : vcells (.agg (pT109 x)) = some (pT109 x) := by simp [pT109]
@[simp] theorem pT109_noB {b : Nat} : (pT109 x).all (noBV b) = true := by simp [pT109]
@[simp] theorem pT109_bnd {k : Nat} : (pT109 x).all (bndV k) = true := by simp [pT109, bndV]
@[simp] theorem pT109_re {m : VM} : vreL1 m (pT109 x) = some (pT109 x) := by simp [pT109]
end
@[simp] def cT109 (x : T109) : List V := [.f .f32 x.a0_, .f .f32 x.a1_, .f .f32 x.a2_, .f .f32 x.a3_]
instance : Pln cT109 := ⟨fun x => by simp⟩
@[simp] theorem cT109_len {x : T109} : (cT109 x).length = 4 := rfl
@[simp] theorem cT109_set {xs : List T109} {i : Nat} {a0 : F32} {a1 : F32} {a2 : F32} {a3 : F32} : (rows cT109 xs).set i [.f .f32 a0, .f .f32 a1, .f .f32 a2, .f .f32 a3] = rows cT109 (xs.set i (⟨a0, a1, a2, a3⟩ : T109)) := rows_set (c := cT109) (x := (⟨a0, a1, a2, a3⟩ : T109))
@[simp] theorem cT109_snoc {xs : List T109} {a0 : F32} {a1 : F32} {a2 : F32} {a3 : F32} : rows cT109 xs ++ [[.f .f32 a0, .f .f32 a1, .f .f32 a2, .f .f32 a3]] = rows cT109 (xs ++ [(⟨a0, a1, a2, a3⟩ : T109)]) := rows_snoc (c := cT109) (x := (⟨a0, a1, a2, a3⟩ : T109))
@[simp] theorem cT109_rep {n : Nat} {a0 : F32} {a1 : F32} {a2 : F32} {a3 : F32} : List.replicate n [.f .f32 a0, .f .f32 a1, .f .f32 a2, .f .f32 a3] = rows cT109 (List.replicate n (⟨a0, a1, a2, a3⟩ : T109)) := rows_rep (c := cT109) (x := (⟨a0, a1, a2, a3⟩ : T109))
theorem cT109_inj (x y : T109) (h : cT109 x = cT109 y) : x = y := by
  obtain ⟨i547, i548, i549, i550⟩ := x
  obtain ⟨i551, i552, i553, i554⟩ := y
  simp only [cT109, List.cons.injEq, V.i.injEq, V.b.injEq, V.f.injEq, V.str.injEq, V.sl.injEq, V.own.injEq, true_and, and_true] at h
  simp_all
def pT132 (x : T132) : List V := [.i .i64 x.a_, .i .i64 x.b_, .f .f32 x.lead_, .f .f32 x.store_, .f .f32 x.heat_.a0_, .f .f32 x.heat_.a1_, .f .f32 x.heat_.a2_, .f .f32 x.heat_.a3_]
section
variable {x : T132}
@[simp] theorem pT132_len : (pT132 x).length = 8 := rfl
@[simp] theorem pT132_0 : (pT132 x)[0]? = some (.i .i64 x.a_) := rfl
@[simp] theorem pT132_g0 (h : 0 < (pT132 x).length) : (pT132 x)[0] = .i .i64 x.a_ := rfl
@[simp] theorem pT132_1 : (pT132 x)[1]? = some (.i .i64 x.b_) := rfl
@[simp] theorem pT132_g1 (h : 1 < (pT132 x).length) : (pT132 x)[1] = .i .i64 x.b_ := rfl
@[simp] theorem pT132_2 : (pT132 x)[2]? = some (.f .f32 x.lead_) := rfl
@[simp] theorem pT132_g2 (h : 2 < (pT132 x).length) : (pT132 x)[2] = .f .f32 x.lead_ := rfl
@[simp] theorem pT132_3 : (pT132 x)[3]? = some (.f .f32 x.store_) := rfl
@[simp] theorem pT132_g3 (h : 3 < (pT132 x).length) : (pT132 x)[3] = .f .f32 x.store_ := rfl
@[simp] theorem pT132_4 : (pT132 x)[4]? = some (.f .f32 x.heat_.a0_) := rfl
@[simp] theorem pT132_g4 (h : 4 < (pT132 x).length) : (pT132 x)[4] = .f .f32 x.heat_.a0_ := rfl
@[simp] theorem pT132_5 : (pT132 x)[5]? = some (.f .f32 x.heat_.a1_) := rfl
@[simp] theorem pT132_g5 (h : 5 < (pT132 x).length) : (pT132 x)[5] = .f .f32 x.heat_.a1_ := rfl
@[simp] theorem pT132_6 : (pT132 x)[6]? = some (.f .f32 x.heat_.a2_) := rfl
@[simp] theorem pT132_g6 (h : 6 < (pT132 x).length) : (pT132 x)[6] = .f .f32 x.heat_.a2_ := rfl
@[simp] theorem pT132_7 : (pT132 x)[7]? = some (.f .f32 x.heat_.a3_) := rfl
@[simp] theorem pT132_g7 (h : 7 < (pT132 x).length) : (pT132 x)[7] = .f .f32 x.heat_.a3_ := rfl
@[simp] theorem pT132_d4 : (pT132 x).drop 4 = [.f .f32 x.heat_.a0_, .f .f32 x.heat_.a1_, .f .f32 x.heat_.a2_, .f .f32 x.heat_.a3_] := rfl
@[simp] theorem pT132_s4_4 : ((pT132 x).drop 4).take 4 = [.f .f32 x.heat_.a0_, .f .f32 x.heat_.a1_, .f .f32 x.heat_.a2_, .f .f32 x.heat_.a3_] := rfl
@[simp] theorem pT132_c4 : chunks 1 4 ((pT132 x).drop 4) = rows cf_f32 [x.heat_.a0_, x.heat_.a1_, x.heat_.a2_, x.heat_.a3_] := rfl
@[simp] theorem pT132_un1 : (pT132 x).map un1 = pT132 x := rfl
@[simp] theorem pT132_snap : snapL (pT132 x) = true := by simp [pT132]
@[simp] theorem pT132_cell : (pT132 x).all cellV = true := by simp [pT132]
@[simp high] theorem pT132_vc : vcells (.agg (pT132 x)) = some (pT132 x) := by simp [pT132]
@[simp] theorem pT132_noB {b : Nat} : (pT132 x).all (noBV b) = true := by simp [pT132]
@[simp] theorem pT132_bnd {k : Nat} : (pT132 x).all (bndV k) = true := by simp [pT132, bndV]
@[simp] theorem pT132_re {m : VM} : vreL1 m (pT132 x) = some (pT132 x) := by simp [pT132]
end
def pT134 (x : T134) : List V := [.i .i64 x.a_, .i .i64 x.b_, .f .f32 x.lead_, .f .f32 x.sun_]
section
variable {x : T134}
@[simp] theorem pT134_len : (pT134 x).length = 4 := rfl
@[simp] theorem pT134_0 : (pT134 x)[0]? = some (.i .i64 x.a_) := rfl
@[simp] theorem pT134_g0 (h : 0 < (pT134 x).length) : (pT134 x)[0] = .i .i64 x.a_ := rfl
@[simp] theorem pT134_1 : (pT134 x)[1]? = some (.i .i64 x.b_) := rfl
@[simp] theorem pT134_g1 (h : 1 < (pT134 x).length) : (pT134 x)[1] = .i .i64 x.b_ := rfl
@[simp] theorem pT134_2 : (pT134 x)[2]? = some (.f .f32 x.lead_) := rfl
@[simp] theorem pT134_g2 (h : 2 < (pT134 x).length) : (pT134 x)[2] = .f .f32 x.lead_ := rfl
@[simp] theorem pT134_3 : (pT134 x)[3]? = some (.f .f32 x.sun_) := rfl
@[simp] theorem pT134_g3 (h : 3 < (pT134 x).length) : (pT134 x)[3] = .f .f32 x.sun_ := rfl
@[simp] theorem pT134_un1 : (pT134 x).map un1 = pT134 x := rfl
@[simp] theorem pT134_snap : snapL (pT134 x) = true := by simp [pT134]
@[simp] theorem pT134_cell : (pT134 x).all cellV = true := by simp [pT134]
@[simp high] theorem pT134_vc : vcells (.agg (pT134 x)) = some (pT134 x) := by simp [pT134]
@[simp] theorem pT134_noB {b : Nat} : (pT134 x).all (noBV b) = true := by simp [pT134]
@[simp] theorem pT134_bnd {k : Nat} : (pT134 x).all (bndV k) = true := by simp [pT134, bndV]
@[simp] theorem pT134_re {m : VM} : vreL1 m (pT134 x) = some (pT134 x) := by simp [pT134]
end
def pT105 (x : T105) : List V := [.f .f32 x.burnt_, .f .f32 x.steam_, .f .f32 x.up_, .f .f32 x.lost_, .i .i64 x.smoky_]
section
variable {x : T105}
@[simp] theorem pT105_len : (pT105 x).length = 5 := rfl
@[simp] theorem pT105_0 : (pT105 x)[0]? = some (.f .f32 x.burnt_) := rfl
@[simp] theorem pT105_g0 (h : 0 < (pT105 x).length) : (pT105 x)[0] = .f .f32 x.burnt_ := rfl
@[simp] theorem pT105_1 : (pT105 x)[1]? = some (.f .f32 x.steam_) := rfl
@[simp] theorem pT105_g1 (h : 1 < (pT105 x).length) : (pT105 x)[1] = .f .f32 x.steam_ := rfl
@[simp] theorem pT105_2 : (pT105 x)[2]? = some (.f .f32 x.up_) := rfl
@[simp] theorem pT105_g2 (h : 2 < (pT105 x).length) : (pT105 x)[2] = .f .f32 x.up_ := rfl
@[simp] theorem pT105_3 : (pT105 x)[3]? = some (.f .f32 x.lost_) := rfl
@[simp] theorem pT105_g3 (h : 3 < (pT105 x).length) : (pT105 x)[3] = .f .f32 x.lost_ := rfl
@[simp] theorem pT105_4 : (pT105 x)[4]? = some (.i .i64 x.smoky_) := rfl
@[simp] theorem pT105_g4 (h : 4 < (pT105 x).length) : (pT105 x)[4] = .i .i64 x.smoky_ := rfl
@[simp] theorem pT105_un1 : (pT105 x).map un1 = pT105 x := rfl
@[simp] theorem pT105_snap : snapL (pT105 x) = true := by simp [pT105]
@[simp] theorem pT105_cell : (pT105 x).all cellV = true := by simp [pT105]
@[simp high] theorem pT105_vc : vcells (.agg (pT105 x)) = some (pT105 x) := by simp [pT105]
@[simp] theorem pT105_noB {b : Nat} : (pT105 x).all (noBV b) = true := by simp [pT105]
@[simp] theorem pT105_bnd {k : Nat} : (pT105 x).all (bndV k) = true := by simp [pT105, bndV]
@[simp] theorem pT105_re {m : VM} : vreL1 m (pT105 x) = some (pT105 x) := by simp [pT105]
end
@[simp] def cT92o (x : T92) : List V := [.i .i64 x.room_, .i .i64 x.flue_, .i .i64 x.brain_, .own 18 (rows cT147 x.stove_.logs_), .f .f32 x.stove_.box_, .f .f32 x.stove_.damper_, .i .i8 x.stove_.state_, .i .i64 x.stove_.ash_, .f .f32 x.stove_.dust_]
instance : Pow cT92o := ⟨fun x => by simp⟩
@[simp] theorem cT92o_unE {xs : List T92} : unE (rows cT92o xs) = rows cT92 xs := by
  induction xs with
  | nil => rfl
  | cons x xs ih => simp [ih]
@[simp] theorem cT92o_frzE {xs : List T92} : frzE (rows cT92o xs) = rows cT92 xs := by
  induction xs with
  | nil => rfl
  | cons x xs ih => simp [ih, frzE, frzL, frz]
@[simp] theorem cT92o_rep0 {n : Nat} : List.replicate n ([.i .i64 0, .i .i64 0, .i .i64 0, .own 18 [], .f .f32 (some 0), .f .f32 (some 0), .i .i8 0, .i .i64 0, .f .f32 (some 0)] : List V) = rows cT92o (List.replicate n (⟨0, 0, 0, (⟨[], (some 0), (some 0), 0, 0, (some 0)⟩ : T90)⟩ : T92)) := by simp [rows]
@[simp] theorem cT92o_len {x : T92} : (cT92o x).length = 9 := rfl
@[simp] theorem cT92o_set {xs : List T92} {i : Nat} {a0 : Int} {a1 : Int} {a2 : Int} {a3 : List T147} {a4 : F32} {a5 : F32} {a6 : Int} {a7 : Int} {a8 : F32} : (rows cT92o xs).set i [.i .i64 a0, .i .i64 a1, .i .i64 a2, .own 18 (rows cT147 a3), .f .f32 a4, .f .f32 a5, .i .i8 a6, .i .i64 a7, .f .f32 a8] = rows cT92o (xs.set i (⟨a0, a1, a2, (⟨a3, a4, a5, a6, a7, a8⟩ : T90)⟩ : T92)) := rows_set (c := cT92o) (x := (⟨a0, a1, a2, (⟨a3, a4, a5, a6, a7, a8⟩ : T90)⟩ : T92))
@[simp] theorem cT92o_snoc {xs : List T92} {a0 : Int} {a1 : Int} {a2 : Int} {a3 : List T147} {a4 : F32} {a5 : F32} {a6 : Int} {a7 : Int} {a8 : F32} : rows cT92o xs ++ [[.i .i64 a0, .i .i64 a1, .i .i64 a2, .own 18 (rows cT147 a3), .f .f32 a4, .f .f32 a5, .i .i8 a6, .i .i64 a7, .f .f32 a8]] = rows cT92o (xs ++ [(⟨a0, a1, a2, (⟨a3, a4, a5, a6, a7, a8⟩ : T90)⟩ : T92)]) := rows_snoc (c := cT92o) (x := (⟨a0, a1, a2, (⟨a3, a4, a5, a6, a7, a8⟩ : T90)⟩ : T92))
@[simp] theorem cT92o_rep {n : Nat} {a0 : Int} {a1 : Int} {a2 : Int} {a3 : List T147} {a4 : F32} {a5 : F32} {a6 : Int} {a7 : Int} {a8 : F32} : List.replicate n [.i .i64 a0, .i .i64 a1, .i .i64 a2, .own 18 (rows cT147 a3), .f .f32 a4, .f .f32 a5, .i .i8 a6, .i .i64 a7, .f .f32 a8] = rows cT92o (List.replicate n (⟨a0, a1, a2, (⟨a3, a4, a5, a6, a7, a8⟩ : T90)⟩ : T92)) := rows_rep (c := cT92o) (x := (⟨a0, a1, a2, (⟨a3, a4, a5, a6, a7, a8⟩ : T90)⟩ : T92))
theorem cT92o_inj (x y : T92) (h : cT92o x = cT92o y) : x = y := by
  obtain ⟨i691, i692, i693, ⟨i694, i695, i696, i697, i698, i699⟩⟩ := x
  obtain ⟨i700, i701, i702, ⟨i703, i704, i705, i706, i707, i708⟩⟩ := y
  simp only [cT92o, List.cons.injEq, V.i.injEq, V.b.injEq, V.f.injEq, V.str.injEq, V.sl.injEq, V.own.injEq, true_and, and_true] at h
  simp_all [ri cT147_inj]
def pT108 (x : T108) : List V := [.f .f32 x.outside_, .f .f32 x.sun_, .f .f32 x.wind_]
section
variable {x : T108}
@[simp] theorem pT108_len : (pT108 x).length = 3 := rfl
@[simp] theorem pT108_0 : (pT108 x)[0]? = some (.f .f32 x.outside_) := rfl
@[simp] theorem pT108_g0 (h : 0 < (pT108 x).length) : (pT108 x)[0] = .f .f32 x.outside_ := rfl
@[simp] theorem pT108_1 : (pT108 x)[1]? = some (.f .f32 x.sun_) := rfl
@[simp] theorem pT108_g1 (h : 1 < (pT108 x).length) : (pT108 x)[1] = .f .f32 x.sun_ := rfl
@[simp] theorem pT108_2 : (pT108 x)[2]? = some (.f .f32 x.wind_) := rfl
@[simp] theorem pT108_g2 (h : 2 < (pT108 x).length) : (pT108 x)[2] = .f .f32 x.wind_ := rfl
@[simp] theorem pT108_un1 : (pT108 x).map un1 = pT108 x := rfl
@[simp] theorem pT108_snap : snapL (pT108 x) = true := by simp [pT108]
@[simp] theorem pT108_cell : (pT108 x).all cellV = true := by simp [pT108]
@[simp high] theorem pT108_vc : vcells (.agg (pT108 x)) = some (pT108 x) := by simp [pT108]
@[simp] theorem pT108_noB {b : Nat} : (pT108 x).all (noBV b) = true := by simp [pT108]
@[simp] theorem pT108_bnd {k : Nat} : (pT108 x).all (bndV k) = true := by simp [pT108, bndV]
@[simp] theorem pT108_re {m : VM} : vreL1 m (pT108 x) = some (pT108 x) := by simp [pT108]
end
theorem okx63 : TellsX Try.prog 63 FXbits32 := TellsX.of (e := Extern.MathFloatBits.float32bits) Try.func63 (by kernel_rfl) (by kernel_rfl) (by kernel_rfl) (by kernel_rfl) (xbits32)
end Go.Proofs.Ytilkneilafpjiaa
