/- The types of the seat. -/
import Derived.Test.YtloepppmjppddaaGreatDoorVxGi
import Derived.Test.YtloepppmjppddaaGreatDoorShelf
import Derived.Test.YtloepppmjppddaaGreatDoorProg
import Derived.KernelRfl
namespace Go.Proofs.YtloepppmjppddaaGreatDoor
open Go.RowKit Go.VL
set_option linter.unusedSimpArgs false
set_option linter.unusedVariables false
set_option maxHeartbeats 40000000
set_option maxRecDepth 100000
@[simp] theorem y_2 : tk Tryz.prog 2 = .int .i64∧Tryz.prog.cellsOf 2 = 1∧Ur Tryz.prog 2 = 1∧Xf Tryz.prog 2 = false∧Yo Tryz.prog 2 = some [.int .i64 0]∧Tryz.prog.bytesOf 2 = 8:=by and_intros <;> kernel_rfl
@[simp] theorem y_3 : tk Tryz.prog 3 = .int .i64∧Tryz.prog.cellsOf 3 = 1∧Ur Tryz.prog 3 = 1∧Xf Tryz.prog 3 = false∧Yo Tryz.prog 3 = some [.int .i64 0]∧Tryz.prog.bytesOf 3 = 8:=by and_intros <;> kernel_rfl
@[simp] theorem y_4 : tk Tryz.prog 4 = .bool∧Tryz.prog.cellsOf 4 = 1∧Ur Tryz.prog 4 = 1∧Xf Tryz.prog 4 = false∧Yo Tryz.prog 4 = some [.bool false]∧Tryz.prog.bytesOf 4 = 1:=by and_intros <;> kernel_rfl
@[simp] theorem y_5 : tk Tryz.prog 5 = .int .u8∧Tryz.prog.cellsOf 5 = 1∧Ur Tryz.prog 5 = 1∧Xf Tryz.prog 5 = false∧Yo Tryz.prog 5 = some [.int .u8 0]∧Tryz.prog.bytesOf 5 = 1:=by and_intros <;> kernel_rfl
@[simp] theorem y_9 : tk Tryz.prog 9 = .str∧Tryz.prog.cellsOf 9 = 1∧Ur Tryz.prog 9 = 1∧Xf Tryz.prog 9 = false∧Yo Tryz.prog 9 = some [.string ByteArray.empty]∧Tryz.prog.bytesOf 9 = 16:=by and_intros <;> kernel_rfl
@[simp] theorem y_22 : tk Tryz.prog 22 = .slice 31∧Tryz.prog.cellsOf 22 = 1∧Ur Tryz.prog 22 = 1∧Xf Tryz.prog 22 = false∧Yo Tryz.prog 22 = some [.slice none 0 0]∧Tryz.prog.bytesOf 22 = 24:=by and_intros <;> kernel_rfl
@[simp] theorem y_23 : tk Tryz.prog 23 = .slice 178∧Tryz.prog.cellsOf 23 = 1∧Ur Tryz.prog 23 = 1∧Xf Tryz.prog 23 = false∧Yo Tryz.prog 23 = some [.slice none 0 0]∧Tryz.prog.bytesOf 23 = 24:=by and_intros <;> kernel_rfl
@[simp] theorem y_24 : tk Tryz.prog 24 = .slice 180∧Tryz.prog.cellsOf 24 = 1∧Ur Tryz.prog 24 = 1∧Xf Tryz.prog 24 = false∧Yo Tryz.prog 24 = some [.slice none 0 0]∧Tryz.prog.bytesOf 24 = 24:=by and_intros <;> kernel_rfl
@[simp] theorem y_26 : tk Tryz.prog 26 = .struct [(0,1,false),(1,1,false),(2,1,false),(3,1,false)]∧Tryz.prog.cellsOf 26 = 4∧Ur Tryz.prog 26 = 4∧Xf Tryz.prog 26 = true∧Yo Tryz.prog 26 = some [.slice none 0 0,.slice none 0 0,.slice none 0 0,.slice none 0 0]∧Tryz.prog.bytesOf 26 = 96:=by and_intros <;> kernel_rfl
@[simp] theorem y_27 : tk Tryz.prog 27 = .slice 126∧Tryz.prog.cellsOf 27 = 1∧Ur Tryz.prog 27 = 1∧Xf Tryz.prog 27 = false∧Yo Tryz.prog 27 = some [.slice none 0 0]∧Tryz.prog.bytesOf 27 = 24:=by and_intros <;> kernel_rfl
@[simp] theorem y_28 : tk Tryz.prog 28 = .slice 110∧Tryz.prog.cellsOf 28 = 1∧Ur Tryz.prog 28 = 1∧Xf Tryz.prog 28 = false∧Yo Tryz.prog 28 = some [.slice none 0 0]∧Tryz.prog.bytesOf 28 = 24:=by and_intros <;> kernel_rfl
@[simp] theorem y_29 : tk Tryz.prog 29 = .slice 9∧Tryz.prog.cellsOf 29 = 1∧Ur Tryz.prog 29 = 1∧Xf Tryz.prog 29 = false∧Yo Tryz.prog 29 = some [.slice none 0 0]∧Tryz.prog.bytesOf 29 = 24:=by and_intros <;> kernel_rfl
@[simp] theorem y_30 : tk Tryz.prog 30 = .slice 129∧Tryz.prog.cellsOf 30 = 1∧Ur Tryz.prog 30 = 1∧Xf Tryz.prog 30 = false∧Yo Tryz.prog 30 = some [.slice none 0 0]∧Tryz.prog.bytesOf 30 = 24:=by and_intros <;> kernel_rfl
@[simp] theorem y_31 : tk Tryz.prog 31 = .flt .f32∧Tryz.prog.cellsOf 31 = 1∧Ur Tryz.prog 31 = 1∧Xf Tryz.prog 31 = false∧Yo Tryz.prog 31 = some [.float .f32 0]∧Tryz.prog.bytesOf 31 = 4:=by and_intros <;> kernel_rfl
@[simp] theorem y_33 : tk Tryz.prog 33 = .struct [(0,1,false),(1,1,false),(2,1,false),(3,1,false),(4,1,false)]∧Tryz.prog.cellsOf 33 = 5∧Ur Tryz.prog 33 = 5∧Xf Tryz.prog 33 = true∧Yo Tryz.prog 33 = some [.float .f32 0,.float .f32 0,.float .f32 0,.float .f32 0,.int .i64 0]∧Tryz.prog.bytesOf 33 = 24:=by and_intros <;> kernel_rfl
@[simp] theorem y_35 : tk Tryz.prog 35 = .struct [(0,4,true),(4,1,false),(5,1,false),(6,1,false),(7,1,false),(8,1,false),(9,5,true)]∧Tryz.prog.cellsOf 35 = 14∧Ur Tryz.prog 35 = 14∧Xf Tryz.prog 35 = true∧Yo Tryz.prog 35 = some [.slice none 0 0,.slice none 0 0,.slice none 0 0,.slice none 0 0,.slice none 0 0,.slice none 0 0,.slice none 0 0,.slice none 0 0,.int .i64 0,.float .f32 0,.float .f32 0,.float .f32 0,.float .f32 0,.int .i64 0]∧Tryz.prog.bytesOf 35 = 224:=by and_intros <;> kernel_rfl
@[simp] theorem y_38 : tk Tryz.prog 38 = .slice 132∧Tryz.prog.cellsOf 38 = 1∧Ur Tryz.prog 38 = 1∧Xf Tryz.prog 38 = false∧Yo Tryz.prog 38 = some [.slice none 0 0]∧Tryz.prog.bytesOf 38 = 24:=by and_intros <;> kernel_rfl
@[simp] theorem y_39 : tk Tryz.prog 39 = .slice 135∧Tryz.prog.cellsOf 39 = 1∧Ur Tryz.prog 39 = 1∧Xf Tryz.prog 39 = false∧Yo Tryz.prog 39 = some [.slice none 0 0]∧Tryz.prog.bytesOf 39 = 24:=by and_intros <;> kernel_rfl
@[simp] theorem y_41 : tk Tryz.prog 41 = .struct [(0,1,false),(1,1,false),(2,1,false),(3,1,false)]∧Tryz.prog.cellsOf 41 = 4∧Ur Tryz.prog 41 = 4∧Xf Tryz.prog 41 = true∧Yo Tryz.prog 41 = some [.slice none 0 0,.slice none 0 0,.slice none 0 0,.slice none 0 0]∧Tryz.prog.bytesOf 41 = 96:=by and_intros <;> kernel_rfl
@[simp] theorem y_42 : tk Tryz.prog 42 = .slice 124∧Tryz.prog.cellsOf 42 = 1∧Ur Tryz.prog 42 = 1∧Xf Tryz.prog 42 = false∧Yo Tryz.prog 42 = some [.slice none 0 0]∧Tryz.prog.bytesOf 42 = 24:=by and_intros <;> kernel_rfl
@[simp] theorem y_43 : tk Tryz.prog 43 = .slice 88∧Tryz.prog.cellsOf 43 = 1∧Ur Tryz.prog 43 = 1∧Xf Tryz.prog 43 = false∧Yo Tryz.prog 43 = some [.slice none 0 0]∧Tryz.prog.bytesOf 43 = 24:=by and_intros <;> kernel_rfl
@[simp] theorem y_44 : tk Tryz.prog 44 = .slice 52∧Tryz.prog.cellsOf 44 = 1∧Ur Tryz.prog 44 = 1∧Xf Tryz.prog 44 = false∧Yo Tryz.prog 44 = some [.slice none 0 0]∧Tryz.prog.bytesOf 44 = 24:=by and_intros <;> kernel_rfl
@[simp] theorem y_45 : tk Tryz.prog 45 = .struct [(0,1,false),(1,1,false),(2,1,false),(3,1,false),(4,1,false)]∧Tryz.prog.cellsOf 45 = 5∧Ur Tryz.prog 45 = 5∧Xf Tryz.prog 45 = true∧Yo Tryz.prog 45 = some [.float .f32 0,.float .f32 0,.float .f32 0,.float .f32 0,.int .i64 0]∧Tryz.prog.bytesOf 45 = 24:=by and_intros <;> kernel_rfl
@[simp] theorem y_47 : tk Tryz.prog 47 = .struct [(0,4,true),(4,1,false),(5,1,false),(6,1,false),(7,1,false),(8,1,false),(9,5,true)]∧Tryz.prog.cellsOf 47 = 14∧Ur Tryz.prog 47 = 14∧Xf Tryz.prog 47 = true∧Yo Tryz.prog 47 = some [.slice none 0 0,.slice none 0 0,.slice none 0 0,.slice none 0 0,.slice none 0 0,.slice none 0 0,.slice none 0 0,.slice none 0 0,.int .i64 0,.float .f32 0,.float .f32 0,.float .f32 0,.float .f32 0,.int .i64 0]∧Tryz.prog.bytesOf 47 = 224:=by and_intros <;> kernel_rfl
@[simp] theorem y_52 : tk Tryz.prog 52 = .struct [(0,1,false),(1,1,false),(2,1,false)]∧Tryz.prog.cellsOf 52 = 3∧Ur Tryz.prog 52 = 3∧Xf Tryz.prog 52 = true∧Yo Tryz.prog 52 = some [.float .f32 0,.float .f32 0,.float .f32 0]∧Tryz.prog.bytesOf 52 = 12:=by and_intros <;> kernel_rfl
@[simp] theorem y_59 : tk Tryz.prog 59 = .flt .f64∧Tryz.prog.cellsOf 59 = 1∧Ur Tryz.prog 59 = 1∧Xf Tryz.prog 59 = false∧Yo Tryz.prog 59 = some [.float .f64 0]∧Tryz.prog.bytesOf 59 = 8:=by and_intros <;> kernel_rfl
@[simp] theorem y_66 : tk Tryz.prog 66 = .ptr 47∧Tryz.prog.cellsOf 66 = 1∧Ur Tryz.prog 66 = 1∧Xf Tryz.prog 66 = false∧Yo Tryz.prog 66 = some [.pointer none]∧Tryz.prog.bytesOf 66 = 8:=by and_intros <;> kernel_rfl
@[simp] theorem y_78 : tk Tryz.prog 78 = .slice 190∧Tryz.prog.cellsOf 78 = 1∧Ur Tryz.prog 78 = 1∧Xf Tryz.prog 78 = false∧Yo Tryz.prog 78 = some [.slice none 0 0]∧Tryz.prog.bytesOf 78 = 24:=by and_intros <;> kernel_rfl
@[simp] theorem y_80 : tk Tryz.prog 80 = .struct [(0,1,false),(1,1,false)]∧Tryz.prog.cellsOf 80 = 2∧Ur Tryz.prog 80 = 2∧Xf Tryz.prog 80 = true∧Yo Tryz.prog 80 = some [.slice none 0 0,.slice none 0 0]∧Tryz.prog.bytesOf 80 = 48:=by and_intros <;> kernel_rfl
@[simp] theorem y_83 : tk Tryz.prog 83 = .slice 150∧Tryz.prog.cellsOf 83 = 1∧Ur Tryz.prog 83 = 1∧Xf Tryz.prog 83 = false∧Yo Tryz.prog 83 = some [.slice none 0 0]∧Tryz.prog.bytesOf 83 = 24:=by and_intros <;> kernel_rfl
@[simp] theorem y_84 : tk Tryz.prog 84 = .int .i8∧Tryz.prog.cellsOf 84 = 1∧Ur Tryz.prog 84 = 1∧Xf Tryz.prog 84 = false∧Yo Tryz.prog 84 = some [.int .i8 0]∧Tryz.prog.bytesOf 84 = 1:=by and_intros <;> kernel_rfl
@[simp] theorem y_86 : tk Tryz.prog 86 = .struct [(0,1,false),(1,1,false),(2,1,false),(3,1,false),(4,1,false),(5,1,false)]∧Tryz.prog.cellsOf 86 = 6∧Ur Tryz.prog 86 = 6∧Xf Tryz.prog 86 = true∧Yo Tryz.prog 86 = some [.slice none 0 0,.float .f32 0,.float .f32 0,.int .i8 0,.int .i64 0,.float .f32 0]∧Tryz.prog.bytesOf 86 = 56:=by and_intros <;> kernel_rfl
@[simp] theorem y_88 : tk Tryz.prog 88 = .struct [(0,1,false),(1,1,false),(2,1,false),(3,6,true)]∧Tryz.prog.cellsOf 88 = 9∧Ur Tryz.prog 88 = 9∧Xf Tryz.prog 88 = true∧Yo Tryz.prog 88 = some [.int .i64 0,.int .i64 0,.int .i64 0,.slice none 0 0,.float .f32 0,.float .f32 0,.int .i8 0,.int .i64 0,.float .f32 0]∧Tryz.prog.bytesOf 88 = 80:=by and_intros <;> kernel_rfl
@[simp] theorem y_106 : tk Tryz.prog 106 = .slice 215∧Tryz.prog.cellsOf 106 = 1∧Ur Tryz.prog 106 = 1∧Xf Tryz.prog 106 = false∧Yo Tryz.prog 106 = some [.slice none 0 0]∧Tryz.prog.bytesOf 106 = 24:=by and_intros <;> kernel_rfl
@[simp] theorem y_108 : tk Tryz.prog 108 = .struct [(0,1,false),(1,1,false),(2,1,false),(3,1,false),(4,1,false),(5,1,false)]∧Tryz.prog.cellsOf 108 = 6∧Ur Tryz.prog 108 = 6∧Xf Tryz.prog 108 = true∧Yo Tryz.prog 108 = some [.slice none 0 0,.float .f32 0,.float .f32 0,.int .i8 0,.int .i64 0,.float .f32 0]∧Tryz.prog.bytesOf 108 = 56:=by and_intros <;> kernel_rfl
@[simp] theorem y_110 : tk Tryz.prog 110 = .struct [(0,1,false),(1,1,false),(2,1,false),(3,6,true)]∧Tryz.prog.cellsOf 110 = 9∧Ur Tryz.prog 110 = 9∧Xf Tryz.prog 110 = true∧Yo Tryz.prog 110 = some [.int .i64 0,.int .i64 0,.int .i64 0,.slice none 0 0,.float .f32 0,.float .f32 0,.int .i8 0,.int .i64 0,.float .f32 0]∧Tryz.prog.bytesOf 110 = 80:=by and_intros <;> kernel_rfl
@[simp] theorem y_112 : tk Tryz.prog 112 = .ptr 41∧Tryz.prog.cellsOf 112 = 1∧Ur Tryz.prog 112 = 1∧Xf Tryz.prog 112 = false∧Yo Tryz.prog 112 = some [.pointer none]∧Tryz.prog.bytesOf 112 = 8:=by and_intros <;> kernel_rfl
@[simp] theorem y_115 : tk Tryz.prog 115 = .ptr 45∧Tryz.prog.cellsOf 115 = 1∧Ur Tryz.prog 115 = 1∧Xf Tryz.prog 115 = false∧Yo Tryz.prog 115 = some [.pointer none]∧Tryz.prog.bytesOf 115 = 8:=by and_intros <;> kernel_rfl
@[simp] theorem y_117 : tk Tryz.prog 117 = .ptr 52∧Tryz.prog.cellsOf 117 = 1∧Ur Tryz.prog 117 = 1∧Xf Tryz.prog 117 = false∧Yo Tryz.prog 117 = some [.pointer none]∧Tryz.prog.bytesOf 117 = 8:=by and_intros <;> kernel_rfl
@[simp] theorem y_124 : tk Tryz.prog 124 = .struct [(0,1,false),(1,1,false),(2,1,false),(3,1,false),(4,1,false)]∧Tryz.prog.cellsOf 124 = 5∧Ur Tryz.prog 124 = 5∧Xf Tryz.prog 124 = true∧Yo Tryz.prog 124 = some [.float .f32 0,.float .f32 0,.float .f32 0,.float .f32 0,.int .i64 0]∧Tryz.prog.bytesOf 124 = 24:=by and_intros <;> kernel_rfl
@[simp] theorem y_126 : tk Tryz.prog 126 = .struct [(0,1,false),(1,1,false),(2,1,false),(3,1,false),(4,1,false)]∧Tryz.prog.cellsOf 126 = 5∧Ur Tryz.prog 126 = 5∧Xf Tryz.prog 126 = true∧Yo Tryz.prog 126 = some [.float .f32 0,.float .f32 0,.float .f32 0,.float .f32 0,.int .i64 0]∧Tryz.prog.bytesOf 126 = 24:=by and_intros <;> kernel_rfl
@[simp] theorem y_129 : tk Tryz.prog 129 = .struct [(0,1,false),(1,1,false),(2,1,false)]∧Tryz.prog.cellsOf 129 = 3∧Ur Tryz.prog 129 = 3∧Xf Tryz.prog 129 = true∧Yo Tryz.prog 129 = some [.float .f32 0,.float .f32 0,.float .f32 0]∧Tryz.prog.bytesOf 129 = 12:=by and_intros <;> kernel_rfl
@[simp] theorem y_130 : tk Tryz.prog 130 = .arr 4 31∧Tryz.prog.cellsOf 130 = 4∧Ur Tryz.prog 130 = 4∧Xf Tryz.prog 130 = true∧Yo Tryz.prog 130 = some [.float .f32 0,.float .f32 0,.float .f32 0,.float .f32 0]∧Tryz.prog.bytesOf 130 = 16:=by and_intros <;> kernel_rfl
@[simp] theorem y_132 : tk Tryz.prog 132 = .struct [(0,1,false),(1,1,false),(2,1,false),(3,1,false),(4,4,true)]∧Tryz.prog.cellsOf 132 = 8∧Ur Tryz.prog 132 = 8∧Xf Tryz.prog 132 = true∧Yo Tryz.prog 132 = some [.int .i64 0,.int .i64 0,.float .f32 0,.float .f32 0,.float .f32 0,.float .f32 0,.float .f32 0,.float .f32 0]∧Tryz.prog.bytesOf 132 = 40:=by and_intros <;> kernel_rfl
@[simp] theorem y_135 : tk Tryz.prog 135 = .struct [(0,1,false),(1,1,false),(2,1,false),(3,1,false)]∧Tryz.prog.cellsOf 135 = 4∧Ur Tryz.prog 135 = 4∧Xf Tryz.prog 135 = true∧Yo Tryz.prog 135 = some [.int .i64 0,.int .i64 0,.float .f32 0,.float .f32 0]∧Tryz.prog.bytesOf 135 = 24:=by and_intros <;> kernel_rfl
@[simp] theorem y_138 : tk Tryz.prog 138 = .ptr 140∧Tryz.prog.cellsOf 138 = 1∧Ur Tryz.prog 138 = 1∧Xf Tryz.prog 138 = false∧Yo Tryz.prog 138 = some [.pointer none]∧Tryz.prog.bytesOf 138 = 8:=by and_intros <;> kernel_rfl
@[simp] theorem y_140 : tk Tryz.prog 140 = .struct [(0,1,false),(1,1,false),(2,1,false),(3,1,false),(4,1,false)]∧Tryz.prog.cellsOf 140 = 5∧Ur Tryz.prog 140 = 5∧Xf Tryz.prog 140 = true∧Yo Tryz.prog 140 = some [.string ByteArray.empty,.int .i64 0,.slice none 0 0,.slice none 0 0,.bool false]∧Tryz.prog.bytesOf 140 = 80:=by and_intros <;> kernel_rfl
@[simp] theorem y_148 : tk Tryz.prog 148 = .arr 6 31∧Tryz.prog.cellsOf 148 = 6∧Ur Tryz.prog 148 = 6∧Xf Tryz.prog 148 = true∧Yo Tryz.prog 148 = some [.float .f32 0,.float .f32 0,.float .f32 0,.float .f32 0,.float .f32 0,.float .f32 0]∧Tryz.prog.bytesOf 148 = 24:=by and_intros <;> kernel_rfl
@[simp] theorem y_150 : tk Tryz.prog 150 = .struct [(0,6,true),(6,6,true),(12,6,true)]∧Tryz.prog.cellsOf 150 = 18∧Ur Tryz.prog 150 = 18∧Xf Tryz.prog 150 = true∧Yo Tryz.prog 150 = some [.float .f32 0,.float .f32 0,.float .f32 0,.float .f32 0,.float .f32 0,.float .f32 0,.float .f32 0,.float .f32 0,.float .f32 0,.float .f32 0,.float .f32 0,.float .f32 0,.float .f32 0,.float .f32 0,.float .f32 0,.float .f32 0,.float .f32 0,.float .f32 0]∧Tryz.prog.bytesOf 150 = 72:=by and_intros <;> kernel_rfl
@[simp] theorem y_152 : tk Tryz.prog 152 = .slice 3∧Tryz.prog.cellsOf 152 = 1∧Ur Tryz.prog 152 = 1∧Xf Tryz.prog 152 = false∧Yo Tryz.prog 152 = some [.slice none 0 0]∧Tryz.prog.bytesOf 152 = 24:=by and_intros <;> kernel_rfl
@[simp] theorem y_161 : tk Tryz.prog 161 = .ptr 86∧Tryz.prog.cellsOf 161 = 1∧Ur Tryz.prog 161 = 1∧Xf Tryz.prog 161 = false∧Yo Tryz.prog 161 = some [.pointer none]∧Tryz.prog.bytesOf 161 = 8:=by and_intros <;> kernel_rfl
@[simp] theorem y_163 : tk Tryz.prog 163 = .ptr 148∧Tryz.prog.cellsOf 163 = 1∧Ur Tryz.prog 163 = 1∧Xf Tryz.prog 163 = false∧Yo Tryz.prog 163 = some [.pointer none]∧Tryz.prog.bytesOf 163 = 8:=by and_intros <;> kernel_rfl
@[simp] theorem y_167 : tk Tryz.prog 167 = .ptr 132∧Tryz.prog.cellsOf 167 = 1∧Ur Tryz.prog 167 = 1∧Xf Tryz.prog 167 = false∧Yo Tryz.prog 167 = some [.pointer none]∧Tryz.prog.bytesOf 167 = 8:=by and_intros <;> kernel_rfl
@[simp] theorem y_169 : tk Tryz.prog 169 = .ptr 135∧Tryz.prog.cellsOf 169 = 1∧Ur Tryz.prog 169 = 1∧Xf Tryz.prog 169 = false∧Yo Tryz.prog 169 = some [.pointer none]∧Tryz.prog.bytesOf 169 = 8:=by and_intros <;> kernel_rfl
@[simp] theorem y_171 : tk Tryz.prog 171 = .ptr 124∧Tryz.prog.cellsOf 171 = 1∧Ur Tryz.prog 171 = 1∧Xf Tryz.prog 171 = false∧Yo Tryz.prog 171 = some [.pointer none]∧Tryz.prog.bytesOf 171 = 8:=by and_intros <;> kernel_rfl
@[simp] theorem y_175 : tk Tryz.prog 175 = .slice 2∧Tryz.prog.cellsOf 175 = 1∧Ur Tryz.prog 175 = 1∧Xf Tryz.prog 175 = false∧Yo Tryz.prog 175 = some [.slice none 0 0]∧Tryz.prog.bytesOf 175 = 24:=by and_intros <;> kernel_rfl
@[simp] theorem y_178 : tk Tryz.prog 178 = .struct [(0,1,false),(1,1,false),(2,1,false),(3,1,false),(4,4,true)]∧Tryz.prog.cellsOf 178 = 8∧Ur Tryz.prog 178 = 8∧Xf Tryz.prog 178 = true∧Yo Tryz.prog 178 = some [.int .i64 0,.int .i64 0,.float .f32 0,.float .f32 0,.float .f32 0,.float .f32 0,.float .f32 0,.float .f32 0]∧Tryz.prog.bytesOf 178 = 40:=by and_intros <;> kernel_rfl
@[simp] theorem y_180 : tk Tryz.prog 180 = .struct [(0,1,false),(1,1,false),(2,1,false),(3,1,false)]∧Tryz.prog.cellsOf 180 = 4∧Ur Tryz.prog 180 = 4∧Xf Tryz.prog 180 = true∧Yo Tryz.prog 180 = some [.int .i64 0,.int .i64 0,.float .f32 0,.float .f32 0]∧Tryz.prog.bytesOf 180 = 24:=by and_intros <;> kernel_rfl
@[simp] theorem y_182 : tk Tryz.prog 182 = .int .u32∧Tryz.prog.cellsOf 182 = 1∧Ur Tryz.prog 182 = 1∧Xf Tryz.prog 182 = false∧Yo Tryz.prog 182 = some [.int .u32 0]∧Tryz.prog.bytesOf 182 = 4:=by and_intros <;> kernel_rfl
@[simp] theorem y_188 : tk Tryz.prog 188 = .int .i16∧Tryz.prog.cellsOf 188 = 1∧Ur Tryz.prog 188 = 1∧Xf Tryz.prog 188 = false∧Yo Tryz.prog 188 = some [.int .i16 0]∧Tryz.prog.bytesOf 188 = 2:=by and_intros <;> kernel_rfl
@[simp] theorem y_190 : tk Tryz.prog 190 = .struct [(0,1,false),(1,1,false),(2,1,false)]∧Tryz.prog.cellsOf 190 = 3∧Ur Tryz.prog 190 = 3∧Xf Tryz.prog 190 = true∧Yo Tryz.prog 190 = some [.int .i8 0,.int .i16 0,.float .f32 0]∧Tryz.prog.bytesOf 190 = 8:=by and_intros <;> kernel_rfl
@[simp] theorem y_199 : tk Tryz.prog 199 = .ptr 150∧Tryz.prog.cellsOf 199 = 1∧Ur Tryz.prog 199 = 1∧Xf Tryz.prog 199 = false∧Yo Tryz.prog 199 = some [.pointer none]∧Tryz.prog.bytesOf 199 = 8:=by and_intros <;> kernel_rfl
@[simp] theorem y_203 : tk Tryz.prog 203 = .ptr 205∧Tryz.prog.cellsOf 203 = 1∧Ur Tryz.prog 203 = 1∧Xf Tryz.prog 203 = false∧Yo Tryz.prog 203 = some [.pointer none]∧Tryz.prog.bytesOf 203 = 8:=by and_intros <;> kernel_rfl
@[simp] theorem y_205 : tk Tryz.prog 205 = .struct [(0,1,false),(1,1,false),(2,1,false),(3,1,false)]∧Tryz.prog.cellsOf 205 = 4∧Ur Tryz.prog 205 = 4∧Xf Tryz.prog 205 = true∧Yo Tryz.prog 205 = some [.slice none 0 0,.slice none 0 0,.slice none 0 0,.bool false]∧Tryz.prog.bytesOf 205 = 80:=by and_intros <;> kernel_rfl
@[simp] theorem y_215 : tk Tryz.prog 215 = .struct [(0,6,true),(6,6,true),(12,6,true)]∧Tryz.prog.cellsOf 215 = 18∧Ur Tryz.prog 215 = 18∧Xf Tryz.prog 215 = true∧Yo Tryz.prog 215 = some [.float .f32 0,.float .f32 0,.float .f32 0,.float .f32 0,.float .f32 0,.float .f32 0,.float .f32 0,.float .f32 0,.float .f32 0,.float .f32 0,.float .f32 0,.float .f32 0,.float .f32 0,.float .f32 0,.float .f32 0,.float .f32 0,.float .f32 0,.float .f32 0]∧Tryz.prog.bytesOf 215 = 72:=by and_intros <;> kernel_rfl
@[simp] theorem y_221 : tk Tryz.prog 221 = .int .u64∧Tryz.prog.cellsOf 221 = 1∧Ur Tryz.prog 221 = 1∧Xf Tryz.prog 221 = false∧Yo Tryz.prog 221 = some [.int .u64 0]∧Tryz.prog.bytesOf 221 = 8:=by and_intros <;> kernel_rfl
@[simp] theorem y_236 : tk Tryz.prog 236 = .iface∧Tryz.prog.cellsOf 236 = 1∧Ur Tryz.prog 236 = 1∧Xf Tryz.prog 236 = false∧Yo Tryz.prog 236 = some [.nilIface]∧ifaceB Tryz.prog 236 = true∧Tryz.prog.bytesOf 236 = 16:=by and_intros <;> kernel_rfl
theorem Xy : Tryz.prog.follows .mixedOrders = true:=by kernel_rfl
structure T189 where
 kind_ : Int
 at_ : Int
 num_ : F32
structure T204 where
 parts_ : List ByteArray
 names_ : List ByteArray
 code_ : List T189
 bad_ : Bool
structure T79 where
 names_ : List ByteArray
 code_ : List T189
@[simp] def Yt (x : ByteArray) : List V:=[.str x]
instance : Pln Yt:=⟨fun x => by simp⟩
@[simp] theorem cs__len {x : ByteArray} : (Yt x).length = 1:=rfl
@[simp] theorem cs__set {xs : List ByteArray} {i : Nat} {a : ByteArray} : (rows Yt xs).set i [.str a] = rows Yt (xs.set i a):=Xo (c:=Yt) (x:=a)
@[simp] theorem cs__snoc {xs : List ByteArray} {a : ByteArray} : rows Yt xs ++ [[.str a]] = rows Yt (xs ++ [a]):=Xd (c:=Yt) (x:=a)
@[simp] theorem cs__rep {n : Nat} {a : ByteArray} : List.replicate n [.str a] = rows Yt (List.replicate n a):=Xp (c:=Yt) (x:=a)
theorem cs__inj (x y : ByteArray) (h : Yt x = Yt y) : x = y:=by
 simp only [Yt,List.cons.injEq,V.i.injEq,V.b.injEq,V.f.injEq,V.str.injEq,V.sl.injEq,V.own.injEq,true_and,and_true] at h
 simp_all
@[simp] def Yh (x : T189) : List V:=[.i .i8 x.kind_,.i .i16 x.at_,.f .f32 x.num_]
instance : Pln Yh:=⟨fun x => by simp⟩
@[simp] theorem cT189_len {x : T189} : (Yh x).length = 3:=rfl
@[simp] theorem cT189_set {xs : List T189} {i : Nat} {a0 : Int} {a1 : Int} {a2 : F32} : (rows Yh xs).set i [.i .i8 a0,.i .i16 a1,.f .f32 a2] = rows Yh (xs.set i (⟨a0,a1,a2⟩ : T189)):=Xo (c:=Yh) (x:=(⟨a0,a1,a2⟩ : T189))
@[simp] theorem cT189_snoc {xs : List T189} {a0 : Int} {a1 : Int} {a2 : F32} : rows Yh xs ++ [[.i .i8 a0,.i .i16 a1,.f .f32 a2]] = rows Yh (xs ++ [(⟨a0,a1,a2⟩ : T189)]):=Xd (c:=Yh) (x:=(⟨a0,a1,a2⟩ : T189))
@[simp] theorem cT189_rep {n : Nat} {a0 : Int} {a1 : Int} {a2 : F32} : List.replicate n [.i .i8 a0,.i .i16 a1,.f .f32 a2] = rows Yh (List.replicate n (⟨a0,a1,a2⟩ : T189)):=Xp (c:=Yh) (x:=(⟨a0,a1,a2⟩ : T189))
theorem cT189_inj (x y : T189) (h : Yh x = Yh y) : x = y:=by
 obtain ⟨i1,i2,i3⟩:=x
 obtain ⟨i4,i5,i6⟩:=y
 simp only [Yh,List.cons.injEq,V.i.injEq,V.b.injEq,V.f.injEq,V.str.injEq,V.sl.injEq,V.own.injEq,true_and,and_true] at h
 simp_all
def Yc (pc : List T189) (r_ : T204) : VM:=[some (2,[[.nil,.nil]]),some (2,[[.ref 2 0 r_.names_.length,.ref 3 0 pc.length]]),some (1,rows Yt r_.names_),some (3,rows Yh pc),some (4,[[.sl 1 (rows Yt r_.parts_),.ref 2 0 r_.names_.length,.ref 5 0 r_.code_.length,.b r_.bad_]]),some (3,rows Yh r_.code_)]
structure T139 where
 line_ : ByteArray
 at_ : Int
 names_ : List ByteArray
 code_ : List T189
 bad_ : Bool
def Zr (pc : List T189) (r_ : T139) : VM:=[some (2,[[.nil,.nil]]),some (2,[[.ref 2 0 r_.names_.length,.ref 3 0 pc.length]]),some (1,rows Yt r_.names_),some (3,rows Yh pc),some (5,[[.str r_.line_,.i .i64 r_.at_,.ref 2 0 r_.names_.length,.ref 5 0 r_.code_.length,.b r_.bad_]]),some (3,rows Yh r_.code_)]
@[simp] def Zv (x : F32) : List V:=[.f .f32 x]
instance : Pln Zv:=⟨fun x => by simp⟩
@[simp] theorem cf_f32_len {x : F32} : (Zv x).length = 1:=rfl
@[simp] theorem cf_f32_set {xs : List F32} {i : Nat} {a : F32} : (rows Zv xs).set i [.f .f32 a] = rows Zv (xs.set i a):=Xo (c:=Zv) (x:=a)
@[simp] theorem cf_f32_snoc {xs : List F32} {a : F32} : rows Zv xs ++ [[.f .f32 a]] = rows Zv (xs ++ [a]):=Xd (c:=Zv) (x:=a)
@[simp] theorem cf_f32_rep {n : Nat} {a : F32} : List.replicate n [.f .f32 a] = rows Zv (List.replicate n a):=Xp (c:=Zv) (x:=a)
theorem cf_f32_inj (x y : F32) (h : Zv x = Zv y) : x = y:=by
 simp only [Zv,List.cons.injEq,V.i.injEq,V.b.injEq,V.f.injEq,V.str.injEq,V.sl.injEq,V.own.injEq,true_and,and_true] at h
 simp_all
structure T130 where
 a0_ : F32
 a1_ : F32
 a2_ : F32
 a3_ : F32
structure T131 where
 a_ : Int
 b_ : Int
 lead_ : F32
 store_ : F32
 heat_ : T130
@[simp] def Yv (x : T131) : List V:=[.i .i64 x.a_,.i .i64 x.b_,.f .f32 x.lead_,.f .f32 x.store_,.f .f32 x.heat_.a0_,.f .f32 x.heat_.a1_,.f .f32 x.heat_.a2_,.f .f32 x.heat_.a3_]
instance : Pln Yv:=⟨fun x => by simp⟩
@[simp] theorem cT131_len {x : T131} : (Yv x).length = 8:=rfl
@[simp] theorem cT131_set {xs : List T131} {i : Nat} {a0 : Int} {a1 : Int} {a2 : F32} {a3 : F32} {a4 : F32} {a5 : F32} {a6 : F32} {a7 : F32} : (rows Yv xs).set i [.i .i64 a0,.i .i64 a1,.f .f32 a2,.f .f32 a3,.f .f32 a4,.f .f32 a5,.f .f32 a6,.f .f32 a7] = rows Yv (xs.set i (⟨a0,a1,a2,a3,(⟨a4,a5,a6,a7⟩ : T130)⟩ : T131)):=Xo (c:=Yv) (x:=(⟨a0,a1,a2,a3,(⟨a4,a5,a6,a7⟩ : T130)⟩ : T131))
@[simp] theorem cT131_snoc {xs : List T131} {a0 : Int} {a1 : Int} {a2 : F32} {a3 : F32} {a4 : F32} {a5 : F32} {a6 : F32} {a7 : F32} : rows Yv xs ++ [[.i .i64 a0,.i .i64 a1,.f .f32 a2,.f .f32 a3,.f .f32 a4,.f .f32 a5,.f .f32 a6,.f .f32 a7]] = rows Yv (xs ++ [(⟨a0,a1,a2,a3,(⟨a4,a5,a6,a7⟩ : T130)⟩ : T131)]):=Xd (c:=Yv) (x:=(⟨a0,a1,a2,a3,(⟨a4,a5,a6,a7⟩ : T130)⟩ : T131))
@[simp] theorem cT131_rep {n : Nat} {a0 : Int} {a1 : Int} {a2 : F32} {a3 : F32} {a4 : F32} {a5 : F32} {a6 : F32} {a7 : F32} : List.replicate n [.i .i64 a0,.i .i64 a1,.f .f32 a2,.f .f32 a3,.f .f32 a4,.f .f32 a5,.f .f32 a6,.f .f32 a7] = rows Yv (List.replicate n (⟨a0,a1,a2,a3,(⟨a4,a5,a6,a7⟩ : T130)⟩ : T131)):=Xp (c:=Yv) (x:=(⟨a0,a1,a2,a3,(⟨a4,a5,a6,a7⟩ : T130)⟩ : T131))
theorem cT131_inj (x y : T131) (h : Yv x = Yv y) : x = y:=by
 obtain ⟨i11,i12,i13,i14,⟨i15,i16,i17,i18⟩⟩:=x
 obtain ⟨i19,i20,i21,i22,⟨i23,i24,i25,i26⟩⟩:=y
 simp only [Yv,List.cons.injEq,V.i.injEq,V.b.injEq,V.f.injEq,V.str.injEq,V.sl.injEq,V.own.injEq,true_and,and_true] at h
 simp_all
structure T134 where
 a_ : Int
 b_ : Int
 lead_ : F32
 sun_ : F32
@[simp] def Yw (x : T134) : List V:=[.i .i64 x.a_,.i .i64 x.b_,.f .f32 x.lead_,.f .f32 x.sun_]
instance : Pln Yw:=⟨fun x => by simp⟩
@[simp] theorem cT134_len {x : T134} : (Yw x).length = 4:=rfl
@[simp] theorem cT134_set {xs : List T134} {i : Nat} {a0 : Int} {a1 : Int} {a2 : F32} {a3 : F32} : (rows Yw xs).set i [.i .i64 a0,.i .i64 a1,.f .f32 a2,.f .f32 a3] = rows Yw (xs.set i (⟨a0,a1,a2,a3⟩ : T134)):=Xo (c:=Yw) (x:=(⟨a0,a1,a2,a3⟩ : T134))
@[simp] theorem cT134_snoc {xs : List T134} {a0 : Int} {a1 : Int} {a2 : F32} {a3 : F32} : rows Yw xs ++ [[.i .i64 a0,.i .i64 a1,.f .f32 a2,.f .f32 a3]] = rows Yw (xs ++ [(⟨a0,a1,a2,a3⟩ : T134)]):=Xd (c:=Yw) (x:=(⟨a0,a1,a2,a3⟩ : T134))
@[simp] theorem cT134_rep {n : Nat} {a0 : Int} {a1 : Int} {a2 : F32} {a3 : F32} : List.replicate n [.i .i64 a0,.i .i64 a1,.f .f32 a2,.f .f32 a3] = rows Yw (List.replicate n (⟨a0,a1,a2,a3⟩ : T134)):=Xp (c:=Yw) (x:=(⟨a0,a1,a2,a3⟩ : T134))
theorem cT134_inj (x y : T134) (h : Yw x = Yw y) : x = y:=by
 obtain ⟨i31,i32,i33,i34⟩:=x
 obtain ⟨i35,i36,i37,i38⟩:=y
 simp only [Yw,List.cons.injEq,V.i.injEq,V.b.injEq,V.f.injEq,V.str.injEq,V.sl.injEq,V.own.injEq,true_and,and_true] at h
 simp_all
structure T25 where
 heat_ : List F32
 store_ : List F32
 walls_ : List T131
 panes_ : List T134
def Wa (x : T25) : List V:=[.sl 1 (rows Zv x.heat_),.sl 1 (rows Zv x.store_),.sl 8 (rows Yv x.walls_),.sl 4 (rows Yw x.panes_)]
section
variable {x : T25}
@[simp] theorem pT25_len : (Wa x).length = 4:=rfl
@[simp] theorem pT25_0 : (Wa x)[0]? = some (.sl 1 (rows Zv x.heat_)):=rfl
@[simp] theorem pT25_g0 (h : 0 < (Wa x).length) : (Wa x)[0] = .sl 1 (rows Zv x.heat_):=rfl
@[simp] theorem pT25_1 : (Wa x)[1]? = some (.sl 1 (rows Zv x.store_)):=rfl
@[simp] theorem pT25_g1 (h : 1 < (Wa x).length) : (Wa x)[1] = .sl 1 (rows Zv x.store_):=rfl
@[simp] theorem pT25_2 : (Wa x)[2]? = some (.sl 8 (rows Yv x.walls_)):=rfl
@[simp] theorem pT25_g2 (h : 2 < (Wa x).length) : (Wa x)[2] = .sl 8 (rows Yv x.walls_):=rfl
@[simp] theorem pT25_3 : (Wa x)[3]? = some (.sl 4 (rows Yw x.panes_)):=rfl
@[simp] theorem pT25_g3 (h : 3 < (Wa x).length) : (Wa x)[3] = .sl 4 (rows Yw x.panes_):=rfl
@[simp] theorem pT25_un1 : (Wa x).map un1 = Wa x:=rfl
@[simp] theorem pT25_snap : Us (Wa x) = true:=by simp [Wa]
@[simp] theorem pT25_cell : (Wa x).all Wn = true:=by simp [Wa]
@[simp high] theorem pT25_vc : Um (.agg (Wa x)) = some (Wa x):=by simp [Wa]
@[simp] theorem pT25_noB {b : Nat} : (Wa x).all (Wo b) = true:=by simp [Wa]
@[simp] theorem pT25_bnd {k : Nat} : (Wa x).all (Zs k) = true:=by simp [Wa,Zs]
@[simp] theorem pT25_re {m : VM} : Ko m (Wa x) = some (Wa x):=by simp [Wa]
end
@[simp] def cT25 (x : T25) : List V:=[.sl 1 (rows Zv x.heat_),.sl 1 (rows Zv x.store_),.sl 8 (rows Yv x.walls_),.sl 4 (rows Yw x.panes_)]
instance : Snp cT25:=⟨fun x => by simp,fun x => by simp⟩
@[simp] theorem cT25_len {x : T25} : (cT25 x).length = 4:=rfl
@[simp] theorem cT25_set {xs : List T25} {i : Nat} {a0 : List F32} {a1 : List F32} {a2 : List T131} {a3 : List T134} : (rows cT25 xs).set i [.sl 1 (rows Zv a0),.sl 1 (rows Zv a1),.sl 8 (rows Yv a2),.sl 4 (rows Yw a3)] = rows cT25 (xs.set i (⟨a0,a1,a2,a3⟩ : T25)):=Xo (c:=cT25) (x:=(⟨a0,a1,a2,a3⟩ : T25))
@[simp] theorem cT25_snoc {xs : List T25} {a0 : List F32} {a1 : List F32} {a2 : List T131} {a3 : List T134} : rows cT25 xs ++ [[.sl 1 (rows Zv a0),.sl 1 (rows Zv a1),.sl 8 (rows Yv a2),.sl 4 (rows Yw a3)]] = rows cT25 (xs ++ [(⟨a0,a1,a2,a3⟩ : T25)]):=Xd (c:=cT25) (x:=(⟨a0,a1,a2,a3⟩ : T25))
@[simp] theorem cT25_rep {n : Nat} {a0 : List F32} {a1 : List F32} {a2 : List T131} {a3 : List T134} : List.replicate n [.sl 1 (rows Zv a0),.sl 1 (rows Zv a1),.sl 8 (rows Yv a2),.sl 4 (rows Yw a3)] = rows cT25 (List.replicate n (⟨a0,a1,a2,a3⟩ : T25)):=Xp (c:=cT25) (x:=(⟨a0,a1,a2,a3⟩ : T25))
theorem cT25_inj (x y : T25) (h : cT25 x = cT25 y) : x = y:=by
 obtain ⟨i43,i44,i45,i46⟩:=x
 obtain ⟨i47,i48,i49,i50⟩:=y
 simp only [cT25,List.cons.injEq,V.i.injEq,V.b.injEq,V.f.injEq,V.str.injEq,V.sl.injEq,V.own.injEq,true_and,and_true] at h
 simp_all [ri cT131_inj,ri cT134_inj,ri cf_f32_inj]
structure T32 where
 burnt_ : F32
 steam_ : F32
 up_ : F32
 lost_ : F32
 smoky_ : Int
@[simp] def Xw (x : T32) : List V:=[.f .f32 x.burnt_,.f .f32 x.steam_,.f .f32 x.up_,.f .f32 x.lost_,.i .i64 x.smoky_]
instance : Pln Xw:=⟨fun x => by simp⟩
@[simp] theorem cT32_len {x : T32} : (Xw x).length = 5:=rfl
@[simp] theorem cT32_set {xs : List T32} {i : Nat} {a0 : F32} {a1 : F32} {a2 : F32} {a3 : F32} {a4 : Int} : (rows Xw xs).set i [.f .f32 a0,.f .f32 a1,.f .f32 a2,.f .f32 a3,.i .i64 a4] = rows Xw (xs.set i (⟨a0,a1,a2,a3,a4⟩ : T32)):=Xo (c:=Xw) (x:=(⟨a0,a1,a2,a3,a4⟩ : T32))
@[simp] theorem cT32_snoc {xs : List T32} {a0 : F32} {a1 : F32} {a2 : F32} {a3 : F32} {a4 : Int} : rows Xw xs ++ [[.f .f32 a0,.f .f32 a1,.f .f32 a2,.f .f32 a3,.i .i64 a4]] = rows Xw (xs ++ [(⟨a0,a1,a2,a3,a4⟩ : T32)]):=Xd (c:=Xw) (x:=(⟨a0,a1,a2,a3,a4⟩ : T32))
@[simp] theorem cT32_rep {n : Nat} {a0 : F32} {a1 : F32} {a2 : F32} {a3 : F32} {a4 : Int} : List.replicate n [.f .f32 a0,.f .f32 a1,.f .f32 a2,.f .f32 a3,.i .i64 a4] = rows Xw (List.replicate n (⟨a0,a1,a2,a3,a4⟩ : T32)):=Xp (c:=Xw) (x:=(⟨a0,a1,a2,a3,a4⟩ : T32))
theorem cT32_inj (x y : T32) (h : Xw x = Xw y) : x = y:=by
 obtain ⟨i61,i62,i63,i64,i65⟩:=x
 obtain ⟨i66,i67,i68,i69,i70⟩:=y
 simp only [Xw,List.cons.injEq,V.i.injEq,V.b.injEq,V.f.injEq,V.str.injEq,V.sl.injEq,V.own.injEq,true_and,and_true] at h
 simp_all
structure T148 where
 a0_ : F32
 a1_ : F32
 a2_ : F32
 a3_ : F32
 a4_ : F32
 a5_ : F32
structure T149 where
 wet_ : T148
 heat_ : T148
 fuel_ : T148
@[simp] def Yk (x : T149) : List V:=[.f .f32 x.wet_.a0_,.f .f32 x.wet_.a1_,.f .f32 x.wet_.a2_,.f .f32 x.wet_.a3_,.f .f32 x.wet_.a4_,.f .f32 x.wet_.a5_,.f .f32 x.heat_.a0_,.f .f32 x.heat_.a1_,.f .f32 x.heat_.a2_,.f .f32 x.heat_.a3_,.f .f32 x.heat_.a4_,.f .f32 x.heat_.a5_,.f .f32 x.fuel_.a0_,.f .f32 x.fuel_.a1_,.f .f32 x.fuel_.a2_,.f .f32 x.fuel_.a3_,.f .f32 x.fuel_.a4_,.f .f32 x.fuel_.a5_]
instance : Pln Yk:=⟨fun x => by simp⟩
@[simp] theorem cT149_len {x : T149} : (Yk x).length = 18:=rfl
@[simp] theorem cT149_set {xs : List T149} {i : Nat} {a0 : F32} {a1 : F32} {a2 : F32} {a3 : F32} {a4 : F32} {a5 : F32} {a6 : F32} {a7 : F32} {a8 : F32} {a9 : F32} {a10 : F32} {a11 : F32} {a12 : F32} {a13 : F32} {a14 : F32} {a15 : F32} {a16 : F32} {a17 : F32} : (rows Yk xs).set i [.f .f32 a0,.f .f32 a1,.f .f32 a2,.f .f32 a3,.f .f32 a4,.f .f32 a5,.f .f32 a6,.f .f32 a7,.f .f32 a8,.f .f32 a9,.f .f32 a10,.f .f32 a11,.f .f32 a12,.f .f32 a13,.f .f32 a14,.f .f32 a15,.f .f32 a16,.f .f32 a17] = rows Yk (xs.set i (⟨(⟨a0,a1,a2,a3,a4,a5⟩ : T148),(⟨a6,a7,a8,a9,a10,a11⟩ : T148),(⟨a12,a13,a14,a15,a16,a17⟩ : T148)⟩ : T149)):=Xo (c:=Yk) (x:=(⟨(⟨a0,a1,a2,a3,a4,a5⟩ : T148),(⟨a6,a7,a8,a9,a10,a11⟩ : T148),(⟨a12,a13,a14,a15,a16,a17⟩ : T148)⟩ : T149))
@[simp] theorem cT149_snoc {xs : List T149} {a0 : F32} {a1 : F32} {a2 : F32} {a3 : F32} {a4 : F32} {a5 : F32} {a6 : F32} {a7 : F32} {a8 : F32} {a9 : F32} {a10 : F32} {a11 : F32} {a12 : F32} {a13 : F32} {a14 : F32} {a15 : F32} {a16 : F32} {a17 : F32} : rows Yk xs ++ [[.f .f32 a0,.f .f32 a1,.f .f32 a2,.f .f32 a3,.f .f32 a4,.f .f32 a5,.f .f32 a6,.f .f32 a7,.f .f32 a8,.f .f32 a9,.f .f32 a10,.f .f32 a11,.f .f32 a12,.f .f32 a13,.f .f32 a14,.f .f32 a15,.f .f32 a16,.f .f32 a17]] = rows Yk (xs ++ [(⟨(⟨a0,a1,a2,a3,a4,a5⟩ : T148),(⟨a6,a7,a8,a9,a10,a11⟩ : T148),(⟨a12,a13,a14,a15,a16,a17⟩ : T148)⟩ : T149)]):=Xd (c:=Yk) (x:=(⟨(⟨a0,a1,a2,a3,a4,a5⟩ : T148),(⟨a6,a7,a8,a9,a10,a11⟩ : T148),(⟨a12,a13,a14,a15,a16,a17⟩ : T148)⟩ : T149))
@[simp] theorem cT149_rep {n : Nat} {a0 : F32} {a1 : F32} {a2 : F32} {a3 : F32} {a4 : F32} {a5 : F32} {a6 : F32} {a7 : F32} {a8 : F32} {a9 : F32} {a10 : F32} {a11 : F32} {a12 : F32} {a13 : F32} {a14 : F32} {a15 : F32} {a16 : F32} {a17 : F32} : List.replicate n [.f .f32 a0,.f .f32 a1,.f .f32 a2,.f .f32 a3,.f .f32 a4,.f .f32 a5,.f .f32 a6,.f .f32 a7,.f .f32 a8,.f .f32 a9,.f .f32 a10,.f .f32 a11,.f .f32 a12,.f .f32 a13,.f .f32 a14,.f .f32 a15,.f .f32 a16,.f .f32 a17] = rows Yk (List.replicate n (⟨(⟨a0,a1,a2,a3,a4,a5⟩ : T148),(⟨a6,a7,a8,a9,a10,a11⟩ : T148),(⟨a12,a13,a14,a15,a16,a17⟩ : T148)⟩ : T149)):=Xp (c:=Yk) (x:=(⟨(⟨a0,a1,a2,a3,a4,a5⟩ : T148),(⟨a6,a7,a8,a9,a10,a11⟩ : T148),(⟨a12,a13,a14,a15,a16,a17⟩ : T148)⟩ : T149))
theorem Gc (x y : T149) (h : Yk x = Yk y) : x = y:=by
 obtain ⟨⟨i75,i76,i77,i78,i79,i80⟩,⟨i81,i82,i83,i84,i85,i86⟩,⟨i87,i88,i89,i90,i91,i92⟩⟩:=x
 obtain ⟨⟨i93,i94,i95,i96,i97,i98⟩,⟨i99,i100,i101,i102,i103,i104⟩,⟨i105,i106,i107,i108,i109,i110⟩⟩:=y
 simp only [Yk,List.cons.injEq,V.i.injEq,V.b.injEq,V.f.injEq,V.str.injEq,V.sl.injEq,V.own.injEq,true_and,and_true] at h
 simp_all
structure T85 where
 logs_ : List T149
 box_ : F32
 damper_ : F32
 state_ : Int
 ash_ : Int
 dust_ : F32
def Wd (x : T85) : List V:=[.sl 18 (rows Yk x.logs_),.f .f32 x.box_,.f .f32 x.damper_,.i .i8 x.state_,.i .i64 x.ash_,.f .f32 x.dust_]
section
variable {x : T85}
@[simp] theorem pT85_len : (Wd x).length = 6:=rfl
@[simp] theorem pT85_0 : (Wd x)[0]? = some (.sl 18 (rows Yk x.logs_)):=rfl
@[simp] theorem pT85_g0 (h : 0 < (Wd x).length) : (Wd x)[0] = .sl 18 (rows Yk x.logs_):=rfl
@[simp] theorem pT85_1 : (Wd x)[1]? = some (.f .f32 x.box_):=rfl
@[simp] theorem pT85_g1 (h : 1 < (Wd x).length) : (Wd x)[1] = .f .f32 x.box_:=rfl
@[simp] theorem pT85_2 : (Wd x)[2]? = some (.f .f32 x.damper_):=rfl
@[simp] theorem pT85_g2 (h : 2 < (Wd x).length) : (Wd x)[2] = .f .f32 x.damper_:=rfl
@[simp] theorem pT85_3 : (Wd x)[3]? = some (.i .i8 x.state_):=rfl
@[simp] theorem pT85_g3 (h : 3 < (Wd x).length) : (Wd x)[3] = .i .i8 x.state_:=rfl
@[simp] theorem pT85_4 : (Wd x)[4]? = some (.i .i64 x.ash_):=rfl
@[simp] theorem pT85_g4 (h : 4 < (Wd x).length) : (Wd x)[4] = .i .i64 x.ash_:=rfl
@[simp] theorem pT85_5 : (Wd x)[5]? = some (.f .f32 x.dust_):=rfl
@[simp] theorem pT85_g5 (h : 5 < (Wd x).length) : (Wd x)[5] = .f .f32 x.dust_:=rfl
@[simp] theorem pT85_un1 : (Wd x).map un1 = Wd x:=rfl
@[simp] theorem pT85_snap : Us (Wd x) = true:=by simp [Wd]
@[simp] theorem pT85_cell : (Wd x).all Wn = true:=by simp [Wd]
@[simp high] theorem pT85_vc : Um (.agg (Wd x)) = some (Wd x):=by simp [Wd]
@[simp] theorem pT85_noB {b : Nat} : (Wd x).all (Wo b) = true:=by simp [Wd]
@[simp] theorem pT85_bnd {k : Nat} : (Wd x).all (Zs k) = true:=by simp [Wd,Zs]
@[simp] theorem pT85_re {m : VM} : Ko m (Wd x) = some (Wd x):=by simp [Wd]
end
@[simp] def cT85 (x : T85) : List V:=[.sl 18 (rows Yk x.logs_),.f .f32 x.box_,.f .f32 x.damper_,.i .i8 x.state_,.i .i64 x.ash_,.f .f32 x.dust_]
instance : Snp cT85:=⟨fun x => by simp,fun x => by simp⟩
@[simp] theorem cT85_len {x : T85} : (cT85 x).length = 6:=rfl
@[simp] theorem cT85_set {xs : List T85} {i : Nat} {a0 : List T149} {a1 : F32} {a2 : F32} {a3 : Int} {a4 : Int} {a5 : F32} : (rows cT85 xs).set i [.sl 18 (rows Yk a0),.f .f32 a1,.f .f32 a2,.i .i8 a3,.i .i64 a4,.f .f32 a5] = rows cT85 (xs.set i (⟨a0,a1,a2,a3,a4,a5⟩ : T85)):=Xo (c:=cT85) (x:=(⟨a0,a1,a2,a3,a4,a5⟩ : T85))
@[simp] theorem cT85_snoc {xs : List T85} {a0 : List T149} {a1 : F32} {a2 : F32} {a3 : Int} {a4 : Int} {a5 : F32} : rows cT85 xs ++ [[.sl 18 (rows Yk a0),.f .f32 a1,.f .f32 a2,.i .i8 a3,.i .i64 a4,.f .f32 a5]] = rows cT85 (xs ++ [(⟨a0,a1,a2,a3,a4,a5⟩ : T85)]):=Xd (c:=cT85) (x:=(⟨a0,a1,a2,a3,a4,a5⟩ : T85))
@[simp] theorem cT85_rep {n : Nat} {a0 : List T149} {a1 : F32} {a2 : F32} {a3 : Int} {a4 : Int} {a5 : F32} : List.replicate n [.sl 18 (rows Yk a0),.f .f32 a1,.f .f32 a2,.i .i8 a3,.i .i64 a4,.f .f32 a5] = rows cT85 (List.replicate n (⟨a0,a1,a2,a3,a4,a5⟩ : T85)):=Xp (c:=cT85) (x:=(⟨a0,a1,a2,a3,a4,a5⟩ : T85))
theorem cT85_inj (x y : T85) (h : cT85 x = cT85 y) : x = y:=by
 obtain ⟨i115,i116,i117,i118,i119,i120⟩:=x
 obtain ⟨i121,i122,i123,i124,i125,i126⟩:=y
 simp only [cT85,List.cons.injEq,V.i.injEq,V.b.injEq,V.f.injEq,V.str.injEq,V.sl.injEq,V.own.injEq,true_and,and_true] at h
 simp_all [ri Gc]
structure T87 where
 room_ : Int
 flue_ : Int
 brain_ : Int
 stove_ : T85
def Wk (x : T87) : List V:=[.i .i64 x.room_,.i .i64 x.flue_,.i .i64 x.brain_,.sl 18 (rows Yk x.stove_.logs_),.f .f32 x.stove_.box_,.f .f32 x.stove_.damper_,.i .i8 x.stove_.state_,.i .i64 x.stove_.ash_,.f .f32 x.stove_.dust_]
section
variable {x : T87}
@[simp] theorem pT87_len : (Wk x).length = 9:=rfl
@[simp] theorem pT87_0 : (Wk x)[0]? = some (.i .i64 x.room_):=rfl
@[simp] theorem pT87_g0 (h : 0 < (Wk x).length) : (Wk x)[0] = .i .i64 x.room_:=rfl
@[simp] theorem pT87_1 : (Wk x)[1]? = some (.i .i64 x.flue_):=rfl
@[simp] theorem pT87_g1 (h : 1 < (Wk x).length) : (Wk x)[1] = .i .i64 x.flue_:=rfl
@[simp] theorem pT87_2 : (Wk x)[2]? = some (.i .i64 x.brain_):=rfl
@[simp] theorem pT87_g2 (h : 2 < (Wk x).length) : (Wk x)[2] = .i .i64 x.brain_:=rfl
@[simp] theorem pT87_3 : (Wk x)[3]? = some (.sl 18 (rows Yk x.stove_.logs_)):=rfl
@[simp] theorem pT87_g3 (h : 3 < (Wk x).length) : (Wk x)[3] = .sl 18 (rows Yk x.stove_.logs_):=rfl
@[simp] theorem pT87_4 : (Wk x)[4]? = some (.f .f32 x.stove_.box_):=rfl
@[simp] theorem pT87_g4 (h : 4 < (Wk x).length) : (Wk x)[4] = .f .f32 x.stove_.box_:=rfl
@[simp] theorem pT87_5 : (Wk x)[5]? = some (.f .f32 x.stove_.damper_):=rfl
@[simp] theorem pT87_g5 (h : 5 < (Wk x).length) : (Wk x)[5] = .f .f32 x.stove_.damper_:=rfl
@[simp] theorem pT87_6 : (Wk x)[6]? = some (.i .i8 x.stove_.state_):=rfl
@[simp] theorem pT87_g6 (h : 6 < (Wk x).length) : (Wk x)[6] = .i .i8 x.stove_.state_:=rfl
@[simp] theorem pT87_7 : (Wk x)[7]? = some (.i .i64 x.stove_.ash_):=rfl
@[simp] theorem pT87_g7 (h : 7 < (Wk x).length) : (Wk x)[7] = .i .i64 x.stove_.ash_:=rfl
@[simp] theorem pT87_8 : (Wk x)[8]? = some (.f .f32 x.stove_.dust_):=rfl
@[simp] theorem pT87_g8 (h : 8 < (Wk x).length) : (Wk x)[8] = .f .f32 x.stove_.dust_:=rfl
@[simp] theorem pT87_d3 : (Wk x).drop 3 = [.sl 18 (rows Yk x.stove_.logs_),.f .f32 x.stove_.box_,.f .f32 x.stove_.damper_,.i .i8 x.stove_.state_,.i .i64 x.stove_.ash_,.f .f32 x.stove_.dust_]:=rfl
@[simp] theorem pT87_s3_6 : ((Wk x).drop 3).take 6 = [.sl 18 (rows Yk x.stove_.logs_),.f .f32 x.stove_.box_,.f .f32 x.stove_.damper_,.i .i8 x.stove_.state_,.i .i64 x.stove_.ash_,.f .f32 x.stove_.dust_]:=rfl
@[simp] theorem pT87_un1 : (Wk x).map un1 = Wk x:=rfl
@[simp] theorem pT87_snap : Us (Wk x) = true:=by simp [Wk]
@[simp] theorem pT87_cell : (Wk x).all Wn = true:=by simp [Wk]
@[simp high] theorem pT87_vc : Um (.agg (Wk x)) = some (Wk x):=by simp [Wk]
@[simp] theorem pT87_noB {b : Nat} : (Wk x).all (Wo b) = true:=by simp [Wk]
@[simp] theorem pT87_bnd {k : Nat} : (Wk x).all (Zs k) = true:=by simp [Wk,Zs]
@[simp] theorem pT87_re {m : VM} : Ko m (Wk x) = some (Wk x):=by simp [Wk]
end
@[simp] def Wb (x : T87) : List V:=[.i .i64 x.room_,.i .i64 x.flue_,.i .i64 x.brain_,.sl 18 (rows Yk x.stove_.logs_),.f .f32 x.stove_.box_,.f .f32 x.stove_.damper_,.i .i8 x.stove_.state_,.i .i64 x.stove_.ash_,.f .f32 x.stove_.dust_]
instance : Snp Wb:=⟨fun x => by simp,fun x => by simp⟩
@[simp] theorem cT87_len {x : T87} : (Wb x).length = 9:=rfl
@[simp] theorem cT87_set {xs : List T87} {i : Nat} {a0 : Int} {a1 : Int} {a2 : Int} {a3 : List T149} {a4 : F32} {a5 : F32} {a6 : Int} {a7 : Int} {a8 : F32} : (rows Wb xs).set i [.i .i64 a0,.i .i64 a1,.i .i64 a2,.sl 18 (rows Yk a3),.f .f32 a4,.f .f32 a5,.i .i8 a6,.i .i64 a7,.f .f32 a8] = rows Wb (xs.set i (⟨a0,a1,a2,(⟨a3,a4,a5,a6,a7,a8⟩ : T85)⟩ : T87)):=Xo (c:=Wb) (x:=(⟨a0,a1,a2,(⟨a3,a4,a5,a6,a7,a8⟩ : T85)⟩ : T87))
@[simp] theorem cT87_snoc {xs : List T87} {a0 : Int} {a1 : Int} {a2 : Int} {a3 : List T149} {a4 : F32} {a5 : F32} {a6 : Int} {a7 : Int} {a8 : F32} : rows Wb xs ++ [[.i .i64 a0,.i .i64 a1,.i .i64 a2,.sl 18 (rows Yk a3),.f .f32 a4,.f .f32 a5,.i .i8 a6,.i .i64 a7,.f .f32 a8]] = rows Wb (xs ++ [(⟨a0,a1,a2,(⟨a3,a4,a5,a6,a7,a8⟩ : T85)⟩ : T87)]):=Xd (c:=Wb) (x:=(⟨a0,a1,a2,(⟨a3,a4,a5,a6,a7,a8⟩ : T85)⟩ : T87))
@[simp] theorem cT87_rep {n : Nat} {a0 : Int} {a1 : Int} {a2 : Int} {a3 : List T149} {a4 : F32} {a5 : F32} {a6 : Int} {a7 : Int} {a8 : F32} : List.replicate n [.i .i64 a0,.i .i64 a1,.i .i64 a2,.sl 18 (rows Yk a3),.f .f32 a4,.f .f32 a5,.i .i8 a6,.i .i64 a7,.f .f32 a8] = rows Wb (List.replicate n (⟨a0,a1,a2,(⟨a3,a4,a5,a6,a7,a8⟩ : T85)⟩ : T87)):=Xp (c:=Wb) (x:=(⟨a0,a1,a2,(⟨a3,a4,a5,a6,a7,a8⟩ : T85)⟩ : T87))
theorem cT87_inj (x y : T87) (h : Wb x = Wb y) : x = y:=by
 obtain ⟨i141,i142,i143,⟨i144,i145,i146,i147,i148,i149⟩⟩:=x
 obtain ⟨i150,i151,i152,⟨i153,i154,i155,i156,i157,i158⟩⟩:=y
 simp only [Wb,List.cons.injEq,V.i.injEq,V.b.injEq,V.f.injEq,V.str.injEq,V.sl.injEq,V.own.injEq,true_and,and_true] at h
 simp_all [ri Gc]
structure T51 where
 outside_ : F32
 sun_ : F32
 wind_ : F32
@[simp] def Wp (x : T51) : List V:=[.f .f32 x.outside_,.f .f32 x.sun_,.f .f32 x.wind_]
instance : Pln Wp:=⟨fun x => by simp⟩
@[simp] theorem cT51_len {x : T51} : (Wp x).length = 3:=rfl
@[simp] theorem cT51_set {xs : List T51} {i : Nat} {a0 : F32} {a1 : F32} {a2 : F32} : (rows Wp xs).set i [.f .f32 a0,.f .f32 a1,.f .f32 a2] = rows Wp (xs.set i (⟨a0,a1,a2⟩ : T51)):=Xo (c:=Wp) (x:=(⟨a0,a1,a2⟩ : T51))
@[simp] theorem cT51_snoc {xs : List T51} {a0 : F32} {a1 : F32} {a2 : F32} : rows Wp xs ++ [[.f .f32 a0,.f .f32 a1,.f .f32 a2]] = rows Wp (xs ++ [(⟨a0,a1,a2⟩ : T51)]):=Xd (c:=Wp) (x:=(⟨a0,a1,a2⟩ : T51))
@[simp] theorem cT51_rep {n : Nat} {a0 : F32} {a1 : F32} {a2 : F32} : List.replicate n [.f .f32 a0,.f .f32 a1,.f .f32 a2] = rows Wp (List.replicate n (⟨a0,a1,a2⟩ : T51)):=Xp (c:=Wp) (x:=(⟨a0,a1,a2⟩ : T51))
theorem cT51_inj (x y : T51) (h : Wp x = Wp y) : x = y:=by
 obtain ⟨i187,i188,i189⟩:=x
 obtain ⟨i190,i191,i192⟩:=y
 simp only [Wp,List.cons.injEq,V.i.injEq,V.b.injEq,V.f.injEq,V.str.injEq,V.sl.injEq,V.own.injEq,true_and,and_true] at h
 simp_all
structure T34 where
 flat_ : T25
 chimney_ : List T32
 hearths_ : List T87
 sources_ : List ByteArray
 hours_ : List T51
 tick_ : Int
 sums_ : T32
def Yi (x : T34) : List V:=[.sl 1 (rows Zv x.flat_.heat_),.sl 1 (rows Zv x.flat_.store_),.sl 8 (rows Yv x.flat_.walls_),.sl 4 (rows Yw x.flat_.panes_),.sl 5 (rows Xw x.chimney_),.sl 9 (rows Wb x.hearths_),.sl 1 (rows Yt x.sources_),.sl 3 (rows Wp x.hours_),.i .i64 x.tick_,.f .f32 x.sums_.burnt_,.f .f32 x.sums_.steam_,.f .f32 x.sums_.up_,.f .f32 x.sums_.lost_,.i .i64 x.sums_.smoky_]
section
variable {x : T34}
@[simp] theorem pT34_len : (Yi x).length = 14:=rfl
@[simp] theorem pT34_0 : (Yi x)[0]? = some (.sl 1 (rows Zv x.flat_.heat_)):=rfl
@[simp] theorem pT34_g0 (h : 0 < (Yi x).length) : (Yi x)[0] = .sl 1 (rows Zv x.flat_.heat_):=rfl
@[simp] theorem pT34_1 : (Yi x)[1]? = some (.sl 1 (rows Zv x.flat_.store_)):=rfl
@[simp] theorem pT34_g1 (h : 1 < (Yi x).length) : (Yi x)[1] = .sl 1 (rows Zv x.flat_.store_):=rfl
@[simp] theorem pT34_2 : (Yi x)[2]? = some (.sl 8 (rows Yv x.flat_.walls_)):=rfl
@[simp] theorem pT34_g2 (h : 2 < (Yi x).length) : (Yi x)[2] = .sl 8 (rows Yv x.flat_.walls_):=rfl
@[simp] theorem pT34_3 : (Yi x)[3]? = some (.sl 4 (rows Yw x.flat_.panes_)):=rfl
@[simp] theorem pT34_g3 (h : 3 < (Yi x).length) : (Yi x)[3] = .sl 4 (rows Yw x.flat_.panes_):=rfl
@[simp] theorem pT34_4 : (Yi x)[4]? = some (.sl 5 (rows Xw x.chimney_)):=rfl
@[simp] theorem pT34_g4 (h : 4 < (Yi x).length) : (Yi x)[4] = .sl 5 (rows Xw x.chimney_):=rfl
@[simp] theorem pT34_5 : (Yi x)[5]? = some (.sl 9 (rows Wb x.hearths_)):=rfl
@[simp] theorem pT34_g5 (h : 5 < (Yi x).length) : (Yi x)[5] = .sl 9 (rows Wb x.hearths_):=rfl
@[simp] theorem pT34_6 : (Yi x)[6]? = some (.sl 1 (rows Yt x.sources_)):=rfl
@[simp] theorem pT34_g6 (h : 6 < (Yi x).length) : (Yi x)[6] = .sl 1 (rows Yt x.sources_):=rfl
@[simp] theorem pT34_7 : (Yi x)[7]? = some (.sl 3 (rows Wp x.hours_)):=rfl
@[simp] theorem pT34_g7 (h : 7 < (Yi x).length) : (Yi x)[7] = .sl 3 (rows Wp x.hours_):=rfl
@[simp] theorem pT34_8 : (Yi x)[8]? = some (.i .i64 x.tick_):=rfl
@[simp] theorem pT34_g8 (h : 8 < (Yi x).length) : (Yi x)[8] = .i .i64 x.tick_:=rfl
@[simp] theorem pT34_9 : (Yi x)[9]? = some (.f .f32 x.sums_.burnt_):=rfl
@[simp] theorem pT34_g9 (h : 9 < (Yi x).length) : (Yi x)[9] = .f .f32 x.sums_.burnt_:=rfl
@[simp] theorem pT34_10 : (Yi x)[10]? = some (.f .f32 x.sums_.steam_):=rfl
@[simp] theorem pT34_g10 (h : 10 < (Yi x).length) : (Yi x)[10] = .f .f32 x.sums_.steam_:=rfl
@[simp] theorem pT34_11 : (Yi x)[11]? = some (.f .f32 x.sums_.up_):=rfl
@[simp] theorem pT34_g11 (h : 11 < (Yi x).length) : (Yi x)[11] = .f .f32 x.sums_.up_:=rfl
@[simp] theorem pT34_12 : (Yi x)[12]? = some (.f .f32 x.sums_.lost_):=rfl
@[simp] theorem pT34_g12 (h : 12 < (Yi x).length) : (Yi x)[12] = .f .f32 x.sums_.lost_:=rfl
@[simp] theorem pT34_13 : (Yi x)[13]? = some (.i .i64 x.sums_.smoky_):=rfl
@[simp] theorem pT34_g13 (h : 13 < (Yi x).length) : (Yi x)[13] = .i .i64 x.sums_.smoky_:=rfl
@[simp] theorem pT34_s0_4 : (Yi x).take 4 = [.sl 1 (rows Zv x.flat_.heat_),.sl 1 (rows Zv x.flat_.store_),.sl 8 (rows Yv x.flat_.walls_),.sl 4 (rows Yw x.flat_.panes_)]:=rfl
@[simp] theorem pT34_d9 : (Yi x).drop 9 = [.f .f32 x.sums_.burnt_,.f .f32 x.sums_.steam_,.f .f32 x.sums_.up_,.f .f32 x.sums_.lost_,.i .i64 x.sums_.smoky_]:=rfl
@[simp] theorem pT34_s9_5 : ((Yi x).drop 9).take 5 = [.f .f32 x.sums_.burnt_,.f .f32 x.sums_.steam_,.f .f32 x.sums_.up_,.f .f32 x.sums_.lost_,.i .i64 x.sums_.smoky_]:=rfl
@[simp] theorem pT34_un1 : (Yi x).map un1 = Yi x:=rfl
@[simp] theorem pT34_snap : Us (Yi x) = true:=by simp [Yi]
@[simp] theorem pT34_cell : (Yi x).all Wn = true:=by simp [Yi]
@[simp high] theorem pT34_vc : Um (.agg (Yi x)) = some (Yi x):=by simp [Yi]
@[simp] theorem pT34_noB {b : Nat} : (Yi x).all (Wo b) = true:=by simp [Yi]
@[simp] theorem pT34_bnd {k : Nat} : (Yi x).all (Zs k) = true:=by simp [Yi,Zs]
@[simp] theorem pT34_re {m : VM} : Ko m (Yi x) = some (Yi x):=by simp [Yi]
end
@[simp] def cT34 (x : T34) : List V:=[.sl 1 (rows Zv x.flat_.heat_),.sl 1 (rows Zv x.flat_.store_),.sl 8 (rows Yv x.flat_.walls_),.sl 4 (rows Yw x.flat_.panes_),.sl 5 (rows Xw x.chimney_),.sl 9 (rows Wb x.hearths_),.sl 1 (rows Yt x.sources_),.sl 3 (rows Wp x.hours_),.i .i64 x.tick_,.f .f32 x.sums_.burnt_,.f .f32 x.sums_.steam_,.f .f32 x.sums_.up_,.f .f32 x.sums_.lost_,.i .i64 x.sums_.smoky_]
instance : Snp cT34:=⟨fun x => by simp,fun x => by simp⟩
@[simp] theorem cT34_len {x : T34} : (cT34 x).length = 14:=rfl
@[simp] theorem cT34_set {xs : List T34} {i : Nat} {a0 : List F32} {a1 : List F32} {a2 : List T131} {a3 : List T134} {a4 : List T32} {a5 : List T87} {a6 : List ByteArray} {a7 : List T51} {a8 : Int} {a9 : F32} {a10 : F32} {a11 : F32} {a12 : F32} {a13 : Int} : (rows cT34 xs).set i [.sl 1 (rows Zv a0),.sl 1 (rows Zv a1),.sl 8 (rows Yv a2),.sl 4 (rows Yw a3),.sl 5 (rows Xw a4),.sl 9 (rows Wb a5),.sl 1 (rows Yt a6),.sl 3 (rows Wp a7),.i .i64 a8,.f .f32 a9,.f .f32 a10,.f .f32 a11,.f .f32 a12,.i .i64 a13] = rows cT34 (xs.set i (⟨(⟨a0,a1,a2,a3⟩ : T25),a4,a5,a6,a7,a8,(⟨a9,a10,a11,a12,a13⟩ : T32)⟩ : T34)):=Xo (c:=cT34) (x:=(⟨(⟨a0,a1,a2,a3⟩ : T25),a4,a5,a6,a7,a8,(⟨a9,a10,a11,a12,a13⟩ : T32)⟩ : T34))
@[simp] theorem cT34_snoc {xs : List T34} {a0 : List F32} {a1 : List F32} {a2 : List T131} {a3 : List T134} {a4 : List T32} {a5 : List T87} {a6 : List ByteArray} {a7 : List T51} {a8 : Int} {a9 : F32} {a10 : F32} {a11 : F32} {a12 : F32} {a13 : Int} : rows cT34 xs ++ [[.sl 1 (rows Zv a0),.sl 1 (rows Zv a1),.sl 8 (rows Yv a2),.sl 4 (rows Yw a3),.sl 5 (rows Xw a4),.sl 9 (rows Wb a5),.sl 1 (rows Yt a6),.sl 3 (rows Wp a7),.i .i64 a8,.f .f32 a9,.f .f32 a10,.f .f32 a11,.f .f32 a12,.i .i64 a13]] = rows cT34 (xs ++ [(⟨(⟨a0,a1,a2,a3⟩ : T25),a4,a5,a6,a7,a8,(⟨a9,a10,a11,a12,a13⟩ : T32)⟩ : T34)]):=Xd (c:=cT34) (x:=(⟨(⟨a0,a1,a2,a3⟩ : T25),a4,a5,a6,a7,a8,(⟨a9,a10,a11,a12,a13⟩ : T32)⟩ : T34))
@[simp] theorem cT34_rep {n : Nat} {a0 : List F32} {a1 : List F32} {a2 : List T131} {a3 : List T134} {a4 : List T32} {a5 : List T87} {a6 : List ByteArray} {a7 : List T51} {a8 : Int} {a9 : F32} {a10 : F32} {a11 : F32} {a12 : F32} {a13 : Int} : List.replicate n [.sl 1 (rows Zv a0),.sl 1 (rows Zv a1),.sl 8 (rows Yv a2),.sl 4 (rows Yw a3),.sl 5 (rows Xw a4),.sl 9 (rows Wb a5),.sl 1 (rows Yt a6),.sl 3 (rows Wp a7),.i .i64 a8,.f .f32 a9,.f .f32 a10,.f .f32 a11,.f .f32 a12,.i .i64 a13] = rows cT34 (List.replicate n (⟨(⟨a0,a1,a2,a3⟩ : T25),a4,a5,a6,a7,a8,(⟨a9,a10,a11,a12,a13⟩ : T32)⟩ : T34)):=Xp (c:=cT34) (x:=(⟨(⟨a0,a1,a2,a3⟩ : T25),a4,a5,a6,a7,a8,(⟨a9,a10,a11,a12,a13⟩ : T32)⟩ : T34))
theorem cT34_inj (x y : T34) (h : cT34 x = cT34 y) : x = y:=by
 obtain ⟨⟨i197,i198,i199,i200⟩,i201,i202,i203,i204,i205,⟨i206,i207,i208,i209,i210⟩⟩:=x
 obtain ⟨⟨i211,i212,i213,i214⟩,i215,i216,i217,i218,i219,⟨i220,i221,i222,i223,i224⟩⟩:=y
 simp only [cT34,List.cons.injEq,V.i.injEq,V.b.injEq,V.f.injEq,V.str.injEq,V.sl.injEq,V.own.injEq,true_and,and_true] at h
 simp_all [ri cT131_inj,ri cT134_inj,ri cT32_inj,ri cT51_inj,ri cT87_inj,ri cf_f32_inj,ri cs__inj]
def Xh (x : T131) : List V:=[.i .i64 x.a_,.i .i64 x.b_,.f .f32 x.lead_,.f .f32 x.store_,.f .f32 x.heat_.a0_,.f .f32 x.heat_.a1_,.f .f32 x.heat_.a2_,.f .f32 x.heat_.a3_]
section
variable {x : T131}
@[simp] theorem pT131_len : (Xh x).length = 8:=rfl
@[simp] theorem pT131_0 : (Xh x)[0]? = some (.i .i64 x.a_):=rfl
@[simp] theorem pT131_g0 (h : 0 < (Xh x).length) : (Xh x)[0] = .i .i64 x.a_:=rfl
@[simp] theorem pT131_1 : (Xh x)[1]? = some (.i .i64 x.b_):=rfl
@[simp] theorem pT131_g1 (h : 1 < (Xh x).length) : (Xh x)[1] = .i .i64 x.b_:=rfl
@[simp] theorem pT131_2 : (Xh x)[2]? = some (.f .f32 x.lead_):=rfl
@[simp] theorem pT131_g2 (h : 2 < (Xh x).length) : (Xh x)[2] = .f .f32 x.lead_:=rfl
@[simp] theorem pT131_3 : (Xh x)[3]? = some (.f .f32 x.store_):=rfl
@[simp] theorem pT131_g3 (h : 3 < (Xh x).length) : (Xh x)[3] = .f .f32 x.store_:=rfl
@[simp] theorem pT131_4 : (Xh x)[4]? = some (.f .f32 x.heat_.a0_):=rfl
@[simp] theorem pT131_g4 (h : 4 < (Xh x).length) : (Xh x)[4] = .f .f32 x.heat_.a0_:=rfl
@[simp] theorem pT131_5 : (Xh x)[5]? = some (.f .f32 x.heat_.a1_):=rfl
@[simp] theorem pT131_g5 (h : 5 < (Xh x).length) : (Xh x)[5] = .f .f32 x.heat_.a1_:=rfl
@[simp] theorem pT131_6 : (Xh x)[6]? = some (.f .f32 x.heat_.a2_):=rfl
@[simp] theorem pT131_g6 (h : 6 < (Xh x).length) : (Xh x)[6] = .f .f32 x.heat_.a2_:=rfl
@[simp] theorem pT131_7 : (Xh x)[7]? = some (.f .f32 x.heat_.a3_):=rfl
@[simp] theorem pT131_g7 (h : 7 < (Xh x).length) : (Xh x)[7] = .f .f32 x.heat_.a3_:=rfl
@[simp] theorem pT131_d4 : (Xh x).drop 4 = [.f .f32 x.heat_.a0_,.f .f32 x.heat_.a1_,.f .f32 x.heat_.a2_,.f .f32 x.heat_.a3_]:=rfl
@[simp] theorem pT131_s4_4 : ((Xh x).drop 4).take 4 = [.f .f32 x.heat_.a0_,.f .f32 x.heat_.a1_,.f .f32 x.heat_.a2_,.f .f32 x.heat_.a3_]:=rfl
@[simp] theorem pT131_c4 : Xz 1 4 ((Xh x).drop 4) = rows Zv [x.heat_.a0_,x.heat_.a1_,x.heat_.a2_,x.heat_.a3_]:=rfl
@[simp] theorem pT131_un1 : (Xh x).map un1 = Xh x:=rfl
@[simp] theorem pT131_snap : Us (Xh x) = true:=by simp [Xh]
@[simp] theorem pT131_cell : (Xh x).all Wn = true:=by simp [Xh]
@[simp high] theorem pT131_vc : Um (.agg (Xh x)) = some (Xh x):=by simp [Xh]
@[simp] theorem pT131_noB {b : Nat} : (Xh x).all (Wo b) = true:=by simp [Xh]
@[simp] theorem pT131_bnd {k : Nat} : (Xh x).all (Zs k) = true:=by simp [Xh,Zs]
@[simp] theorem pT131_re {m : VM} : Ko m (Xh x) = some (Xh x):=by simp [Xh]
end
def Xs (x : T134) : List V:=[.i .i64 x.a_,.i .i64 x.b_,.f .f32 x.lead_,.f .f32 x.sun_]
section
variable {x : T134}
@[simp] theorem pT134_len : (Xs x).length = 4:=rfl
@[simp] theorem pT134_0 : (Xs x)[0]? = some (.i .i64 x.a_):=rfl
@[simp] theorem pT134_g0 (h : 0 < (Xs x).length) : (Xs x)[0] = .i .i64 x.a_:=rfl
@[simp] theorem pT134_1 : (Xs x)[1]? = some (.i .i64 x.b_):=rfl
@[simp] theorem pT134_g1 (h : 1 < (Xs x).length) : (Xs x)[1] = .i .i64 x.b_:=rfl
@[simp] theorem pT134_2 : (Xs x)[2]? = some (.f .f32 x.lead_):=rfl
@[simp] theorem pT134_g2 (h : 2 < (Xs x).length) : (Xs x)[2] = .f .f32 x.lead_:=rfl
@[simp] theorem pT134_3 : (Xs x)[3]? = some (.f .f32 x.sun_):=rfl
@[simp] theorem pT134_g3 (h : 3 < (Xs x).length) : (Xs x)[3] = .f .f32 x.sun_:=rfl
@[simp] theorem pT134_un1 : (Xs x).map un1 = Xs x:=rfl
@[simp] theorem pT134_snap : Us (Xs x) = true:=by simp [Xs]
@[simp] theorem pT134_cell : (Xs x).all Wn = true:=by simp [Xs]
@[simp high] theorem pT134_vc : Um (.agg (Xs x)) = some (Xs x):=by simp [Xs]
@[simp] theorem pT134_noB {b : Nat} : (Xs x).all (Wo b) = true:=by simp [Xs]
@[simp] theorem pT134_bnd {k : Nat} : (Xs x).all (Zs k) = true:=by simp [Xs,Zs]
@[simp] theorem pT134_re {m : VM} : Ko m (Xs x) = some (Xs x):=by simp [Xs]
end
def Xk (x : T32) : List V:=[.f .f32 x.burnt_,.f .f32 x.steam_,.f .f32 x.up_,.f .f32 x.lost_,.i .i64 x.smoky_]
section
variable {x : T32}
@[simp] theorem pT32_len : (Xk x).length = 5:=rfl
@[simp] theorem pT32_0 : (Xk x)[0]? = some (.f .f32 x.burnt_):=rfl
@[simp] theorem pT32_g0 (h : 0 < (Xk x).length) : (Xk x)[0] = .f .f32 x.burnt_:=rfl
@[simp] theorem pT32_1 : (Xk x)[1]? = some (.f .f32 x.steam_):=rfl
@[simp] theorem pT32_g1 (h : 1 < (Xk x).length) : (Xk x)[1] = .f .f32 x.steam_:=rfl
@[simp] theorem pT32_2 : (Xk x)[2]? = some (.f .f32 x.up_):=rfl
@[simp] theorem pT32_g2 (h : 2 < (Xk x).length) : (Xk x)[2] = .f .f32 x.up_:=rfl
@[simp] theorem pT32_3 : (Xk x)[3]? = some (.f .f32 x.lost_):=rfl
@[simp] theorem pT32_g3 (h : 3 < (Xk x).length) : (Xk x)[3] = .f .f32 x.lost_:=rfl
@[simp] theorem pT32_4 : (Xk x)[4]? = some (.i .i64 x.smoky_):=rfl
@[simp] theorem pT32_g4 (h : 4 < (Xk x).length) : (Xk x)[4] = .i .i64 x.smoky_:=rfl
@[simp] theorem pT32_un1 : (Xk x).map un1 = Xk x:=rfl
@[simp] theorem pT32_snap : Us (Xk x) = true:=by simp [Xk]
@[simp] theorem pT32_cell : (Xk x).all Wn = true:=by simp [Xk]
@[simp high] theorem pT32_vc : Um (.agg (Xk x)) = some (Xk x):=by simp [Xk]
@[simp] theorem pT32_noB {b : Nat} : (Xk x).all (Wo b) = true:=by simp [Xk]
@[simp] theorem pT32_bnd {k : Nat} : (Xk x).all (Zs k) = true:=by simp [Xk,Zs]
@[simp] theorem pT32_re {m : VM} : Ko m (Xk x) = some (Xk x):=by simp [Xk]
end
def Uo (x : T51) : List V:=[.f .f32 x.outside_,.f .f32 x.sun_,.f .f32 x.wind_]
section
variable {x : T51}
@[simp] theorem pT51_len : (Uo x).length = 3:=rfl
@[simp] theorem pT51_0 : (Uo x)[0]? = some (.f .f32 x.outside_):=rfl
@[simp] theorem pT51_g0 (h : 0 < (Uo x).length) : (Uo x)[0] = .f .f32 x.outside_:=rfl
@[simp] theorem pT51_1 : (Uo x)[1]? = some (.f .f32 x.sun_):=rfl
@[simp] theorem pT51_g1 (h : 1 < (Uo x).length) : (Uo x)[1] = .f .f32 x.sun_:=rfl
@[simp] theorem pT51_2 : (Uo x)[2]? = some (.f .f32 x.wind_):=rfl
@[simp] theorem pT51_g2 (h : 2 < (Uo x).length) : (Uo x)[2] = .f .f32 x.wind_:=rfl
@[simp] theorem pT51_un1 : (Uo x).map un1 = Uo x:=rfl
@[simp] theorem pT51_snap : Us (Uo x) = true:=by simp [Uo]
@[simp] theorem pT51_cell : (Uo x).all Wn = true:=by simp [Uo]
@[simp high] theorem pT51_vc : Um (.agg (Uo x)) = some (Uo x):=by simp [Uo]
@[simp] theorem pT51_noB {b : Nat} : (Uo x).all (Wo b) = true:=by simp [Uo]
@[simp] theorem pT51_bnd {k : Nat} : (Uo x).all (Zs k) = true:=by simp [Uo,Zs]
@[simp] theorem pT51_re {m : VM} : Ko m (Uo x) = some (Uo x):=by simp [Uo]
end
def Wm (x : T204) : List V:=[.sl 1 (rows Yt x.parts_),.sl 1 (rows Yt x.names_),.sl 3 (rows Yh x.code_),.b x.bad_]
section
variable {x : T204}
@[simp] theorem pT204_len : (Wm x).length = 4:=rfl
@[simp] theorem pT204_0 : (Wm x)[0]? = some (.sl 1 (rows Yt x.parts_)):=rfl
@[simp] theorem pT204_g0 (h : 0 < (Wm x).length) : (Wm x)[0] = .sl 1 (rows Yt x.parts_):=rfl
@[simp] theorem pT204_1 : (Wm x)[1]? = some (.sl 1 (rows Yt x.names_)):=rfl
@[simp] theorem pT204_g1 (h : 1 < (Wm x).length) : (Wm x)[1] = .sl 1 (rows Yt x.names_):=rfl
@[simp] theorem pT204_2 : (Wm x)[2]? = some (.sl 3 (rows Yh x.code_)):=rfl
@[simp] theorem pT204_g2 (h : 2 < (Wm x).length) : (Wm x)[2] = .sl 3 (rows Yh x.code_):=rfl
@[simp] theorem pT204_3 : (Wm x)[3]? = some (.b x.bad_):=rfl
@[simp] theorem pT204_g3 (h : 3 < (Wm x).length) : (Wm x)[3] = .b x.bad_:=rfl
@[simp] theorem pT204_un1 : (Wm x).map un1 = Wm x:=rfl
@[simp] theorem pT204_snap : Us (Wm x) = true:=by simp [Wm]
@[simp] theorem pT204_cell : (Wm x).all Wn = true:=by simp [Wm]
@[simp high] theorem pT204_vc : Um (.agg (Wm x)) = some (Wm x):=by simp [Wm]
@[simp] theorem pT204_noB {b : Nat} : (Wm x).all (Wo b) = true:=by simp [Wm]
@[simp] theorem pT204_bnd {k : Nat} : (Wm x).all (Zs k) = true:=by simp [Wm,Zs]
@[simp] theorem pT204_re {m : VM} : Ko m (Wm x) = some (Wm x):=by simp [Wm]
end
def Ya (x : T149) : List V:=[.f .f32 x.wet_.a0_,.f .f32 x.wet_.a1_,.f .f32 x.wet_.a2_,.f .f32 x.wet_.a3_,.f .f32 x.wet_.a4_,.f .f32 x.wet_.a5_,.f .f32 x.heat_.a0_,.f .f32 x.heat_.a1_,.f .f32 x.heat_.a2_,.f .f32 x.heat_.a3_,.f .f32 x.heat_.a4_,.f .f32 x.heat_.a5_,.f .f32 x.fuel_.a0_,.f .f32 x.fuel_.a1_,.f .f32 x.fuel_.a2_,.f .f32 x.fuel_.a3_,.f .f32 x.fuel_.a4_,.f .f32 x.fuel_.a5_]
section
variable {x : T149}
@[simp] theorem pT149_len : (Ya x).length = 18:=rfl
@[simp] theorem pT149_0 : (Ya x)[0]? = some (.f .f32 x.wet_.a0_):=rfl
@[simp] theorem pT149_g0 (h : 0 < (Ya x).length) : (Ya x)[0] = .f .f32 x.wet_.a0_:=rfl
@[simp] theorem pT149_1 : (Ya x)[1]? = some (.f .f32 x.wet_.a1_):=rfl
@[simp] theorem pT149_g1 (h : 1 < (Ya x).length) : (Ya x)[1] = .f .f32 x.wet_.a1_:=rfl
@[simp] theorem pT149_2 : (Ya x)[2]? = some (.f .f32 x.wet_.a2_):=rfl
@[simp] theorem pT149_g2 (h : 2 < (Ya x).length) : (Ya x)[2] = .f .f32 x.wet_.a2_:=rfl
@[simp] theorem pT149_3 : (Ya x)[3]? = some (.f .f32 x.wet_.a3_):=rfl
@[simp] theorem pT149_g3 (h : 3 < (Ya x).length) : (Ya x)[3] = .f .f32 x.wet_.a3_:=rfl
@[simp] theorem pT149_4 : (Ya x)[4]? = some (.f .f32 x.wet_.a4_):=rfl
@[simp] theorem pT149_g4 (h : 4 < (Ya x).length) : (Ya x)[4] = .f .f32 x.wet_.a4_:=rfl
@[simp] theorem pT149_5 : (Ya x)[5]? = some (.f .f32 x.wet_.a5_):=rfl
@[simp] theorem pT149_g5 (h : 5 < (Ya x).length) : (Ya x)[5] = .f .f32 x.wet_.a5_:=rfl
@[simp] theorem pT149_6 : (Ya x)[6]? = some (.f .f32 x.heat_.a0_):=rfl
@[simp] theorem pT149_g6 (h : 6 < (Ya x).length) : (Ya x)[6] = .f .f32 x.heat_.a0_:=rfl
@[simp] theorem pT149_7 : (Ya x)[7]? = some (.f .f32 x.heat_.a1_):=rfl
@[simp] theorem pT149_g7 (h : 7 < (Ya x).length) : (Ya x)[7] = .f .f32 x.heat_.a1_:=rfl
@[simp] theorem pT149_8 : (Ya x)[8]? = some (.f .f32 x.heat_.a2_):=rfl
@[simp] theorem pT149_g8 (h : 8 < (Ya x).length) : (Ya x)[8] = .f .f32 x.heat_.a2_:=rfl
@[simp] theorem pT149_9 : (Ya x)[9]? = some (.f .f32 x.heat_.a3_):=rfl
@[simp] theorem pT149_g9 (h : 9 < (Ya x).length) : (Ya x)[9] = .f .f32 x.heat_.a3_:=rfl
@[simp] theorem pT149_10 : (Ya x)[10]? = some (.f .f32 x.heat_.a4_):=rfl
@[simp] theorem pT149_g10 (h : 10 < (Ya x).length) : (Ya x)[10] = .f .f32 x.heat_.a4_:=rfl
@[simp] theorem pT149_11 : (Ya x)[11]? = some (.f .f32 x.heat_.a5_):=rfl
@[simp] theorem pT149_g11 (h : 11 < (Ya x).length) : (Ya x)[11] = .f .f32 x.heat_.a5_:=rfl
@[simp] theorem pT149_12 : (Ya x)[12]? = some (.f .f32 x.fuel_.a0_):=rfl
@[simp] theorem pT149_g12 (h : 12 < (Ya x).length) : (Ya x)[12] = .f .f32 x.fuel_.a0_:=rfl
@[simp] theorem pT149_13 : (Ya x)[13]? = some (.f .f32 x.fuel_.a1_):=rfl
@[simp] theorem pT149_g13 (h : 13 < (Ya x).length) : (Ya x)[13] = .f .f32 x.fuel_.a1_:=rfl
@[simp] theorem pT149_14 : (Ya x)[14]? = some (.f .f32 x.fuel_.a2_):=rfl
@[simp] theorem pT149_g14 (h : 14 < (Ya x).length) : (Ya x)[14] = .f .f32 x.fuel_.a2_:=rfl
@[simp] theorem pT149_15 : (Ya x)[15]? = some (.f .f32 x.fuel_.a3_):=rfl
@[simp] theorem pT149_g15 (h : 15 < (Ya x).length) : (Ya x)[15] = .f .f32 x.fuel_.a3_:=rfl
@[simp] theorem pT149_16 : (Ya x)[16]? = some (.f .f32 x.fuel_.a4_):=rfl
@[simp] theorem pT149_g16 (h : 16 < (Ya x).length) : (Ya x)[16] = .f .f32 x.fuel_.a4_:=rfl
@[simp] theorem pT149_17 : (Ya x)[17]? = some (.f .f32 x.fuel_.a5_):=rfl
@[simp] theorem pT149_g17 (h : 17 < (Ya x).length) : (Ya x)[17] = .f .f32 x.fuel_.a5_:=rfl
@[simp] theorem pT149_s0_6 : (Ya x).take 6 = [.f .f32 x.wet_.a0_,.f .f32 x.wet_.a1_,.f .f32 x.wet_.a2_,.f .f32 x.wet_.a3_,.f .f32 x.wet_.a4_,.f .f32 x.wet_.a5_]:=rfl
@[simp] theorem pT149_s6_6 : ((Ya x).drop 6).take 6 = [.f .f32 x.heat_.a0_,.f .f32 x.heat_.a1_,.f .f32 x.heat_.a2_,.f .f32 x.heat_.a3_,.f .f32 x.heat_.a4_,.f .f32 x.heat_.a5_]:=rfl
@[simp] theorem pT149_d12 : (Ya x).drop 12 = [.f .f32 x.fuel_.a0_,.f .f32 x.fuel_.a1_,.f .f32 x.fuel_.a2_,.f .f32 x.fuel_.a3_,.f .f32 x.fuel_.a4_,.f .f32 x.fuel_.a5_]:=rfl
@[simp] theorem pT149_s12_6 : ((Ya x).drop 12).take 6 = [.f .f32 x.fuel_.a0_,.f .f32 x.fuel_.a1_,.f .f32 x.fuel_.a2_,.f .f32 x.fuel_.a3_,.f .f32 x.fuel_.a4_,.f .f32 x.fuel_.a5_]:=rfl
@[simp] theorem pT149_c0 : Xz 1 6 ((Ya x).drop 0) = rows Zv [x.wet_.a0_,x.wet_.a1_,x.wet_.a2_,x.wet_.a3_,x.wet_.a4_,x.wet_.a5_]:=rfl
@[simp] theorem pT149_c : Xz 1 6 (Ya x) = rows Zv [x.wet_.a0_,x.wet_.a1_,x.wet_.a2_,x.wet_.a3_,x.wet_.a4_,x.wet_.a5_]:=rfl
@[simp] theorem pT149_c6 : Xz 1 6 ((Ya x).drop 6) = rows Zv [x.heat_.a0_,x.heat_.a1_,x.heat_.a2_,x.heat_.a3_,x.heat_.a4_,x.heat_.a5_]:=rfl
@[simp] theorem pT149_c12 : Xz 1 6 ((Ya x).drop 12) = rows Zv [x.fuel_.a0_,x.fuel_.a1_,x.fuel_.a2_,x.fuel_.a3_,x.fuel_.a4_,x.fuel_.a5_]:=rfl
@[simp] theorem pT149_un1 : (Ya x).map un1 = Ya x:=rfl
@[simp] theorem pT149_snap : Us (Ya x) = true:=by simp [Ya]
@[simp] theorem pT149_cell : (Ya x).all Wn = true:=by simp [Ya]
@[simp high] theorem pT149_vc : Um (.agg (Ya x)) = some (Ya x):=by simp [Ya]
@[simp] theorem pT149_noB {b : Nat} : (Ya x).all (Wo b) = true:=by simp [Ya]
@[simp] theorem pT149_bnd {k : Nat} : (Ya x).all (Zs k) = true:=by simp [Ya,Zs]
@[simp] theorem pT149_re {m : VM} : Ko m (Ya x) = some (Ya x):=by simp [Ya]
end
@[simp] def Ww (x : Int) : List V:=[.i .i64 x]
instance : Pln Ww:=⟨fun x => by simp⟩
@[simp] theorem ci_i64_len {x : Int} : (Ww x).length = 1:=rfl
@[simp] theorem ci_i64_set {xs : List Int} {i : Nat} {a : Int} : (rows Ww xs).set i [.i .i64 a] = rows Ww (xs.set i a):=Xo (c:=Ww) (x:=a)
@[simp] theorem ci_i64_snoc {xs : List Int} {a : Int} : rows Ww xs ++ [[.i .i64 a]] = rows Ww (xs ++ [a]):=Xd (c:=Ww) (x:=a)
@[simp] theorem ci_i64_rep {n : Nat} {a : Int} : List.replicate n [.i .i64 a] = rows Ww (List.replicate n a):=Xp (c:=Ww) (x:=a)
theorem ci_i64_inj (x y : Int) (h : Ww x = Ww y) : x = y:=by
 simp only [Ww,List.cons.injEq,V.i.injEq,V.b.injEq,V.f.injEq,V.str.injEq,V.sl.injEq,V.own.injEq,true_and,and_true] at h
 simp_all
def Xc (x : T130) : List V:=[.f .f32 x.a0_,.f .f32 x.a1_,.f .f32 x.a2_,.f .f32 x.a3_]
section
variable {x : T130}
@[simp] theorem pT130_len : (Xc x).length = 4:=rfl
@[simp] theorem pT130_0 : (Xc x)[0]? = some (.f .f32 x.a0_):=rfl
@[simp] theorem pT130_g0 (h : 0 < (Xc x).length) : (Xc x)[0] = .f .f32 x.a0_:=rfl
@[simp] theorem pT130_1 : (Xc x)[1]? = some (.f .f32 x.a1_):=rfl
@[simp] theorem pT130_g1 (h : 1 < (Xc x).length) : (Xc x)[1] = .f .f32 x.a1_:=rfl
@[simp] theorem pT130_2 : (Xc x)[2]? = some (.f .f32 x.a2_):=rfl
@[simp] theorem pT130_g2 (h : 2 < (Xc x).length) : (Xc x)[2] = .f .f32 x.a2_:=rfl
@[simp] theorem pT130_3 : (Xc x)[3]? = some (.f .f32 x.a3_):=rfl
@[simp] theorem pT130_g3 (h : 3 < (Xc x).length) : (Xc x)[3] = .f .f32 x.a3_:=rfl
@[simp] theorem pT130_c0 : Xz 1 4 ((Xc x).drop 0) = rows Zv [x.a0_,x.a1_,x.a2_,x.a3_]:=rfl
@[simp] theorem pT130_c : Xz 1 4 (Xc x) = rows Zv [x.a0_,x.a1_,x.a2_,x.a3_]:=rfl
@[simp] theorem pT130_un1 : (Xc x).map un1 = Xc x:=rfl
@[simp] theorem pT130_snap : Us (Xc x) = true:=by simp [Xc]
@[simp] theorem pT130_cell : (Xc x).all Wn = true:=by simp [Xc]
@[simp high] theorem pT130_vc : Um (.agg (Xc x)) = some (Xc x):=by simp [Xc]
@[simp] theorem pT130_noB {b : Nat} : (Xc x).all (Wo b) = true:=by simp [Xc]
@[simp] theorem pT130_bnd {k : Nat} : (Xc x).all (Zs k) = true:=by simp [Xc,Zs]
@[simp] theorem pT130_re {m : VM} : Ko m (Xc x) = some (Xc x):=by simp [Xc]
end
@[simp] def Jp (x : T130) : List V:=[.f .f32 x.a0_,.f .f32 x.a1_,.f .f32 x.a2_,.f .f32 x.a3_]
instance : Pln Jp:=⟨fun x => by simp⟩
@[simp] theorem cT130_len {x : T130} : (Jp x).length = 4:=rfl
@[simp] theorem cT130_set {xs : List T130} {i : Nat} {a0 : F32} {a1 : F32} {a2 : F32} {a3 : F32} : (rows Jp xs).set i [.f .f32 a0,.f .f32 a1,.f .f32 a2,.f .f32 a3] = rows Jp (xs.set i (⟨a0,a1,a2,a3⟩ : T130)):=Xo (c:=Jp) (x:=(⟨a0,a1,a2,a3⟩ : T130))
@[simp] theorem cT130_snoc {xs : List T130} {a0 : F32} {a1 : F32} {a2 : F32} {a3 : F32} : rows Jp xs ++ [[.f .f32 a0,.f .f32 a1,.f .f32 a2,.f .f32 a3]] = rows Jp (xs ++ [(⟨a0,a1,a2,a3⟩ : T130)]):=Xd (c:=Jp) (x:=(⟨a0,a1,a2,a3⟩ : T130))
@[simp] theorem cT130_rep {n : Nat} {a0 : F32} {a1 : F32} {a2 : F32} {a3 : F32} : List.replicate n [.f .f32 a0,.f .f32 a1,.f .f32 a2,.f .f32 a3] = rows Jp (List.replicate n (⟨a0,a1,a2,a3⟩ : T130)):=Xp (c:=Jp) (x:=(⟨a0,a1,a2,a3⟩ : T130))
theorem cT130_inj (x y : T130) (h : Jp x = Jp y) : x = y:=by
 obtain ⟨i507,i508,i509,i510⟩:=x
 obtain ⟨i511,i512,i513,i514⟩:=y
 simp only [Jp,List.cons.injEq,V.i.injEq,V.b.injEq,V.f.injEq,V.str.injEq,V.sl.injEq,V.own.injEq,true_and,and_true] at h
 simp_all
def Yr (x : T148) : List V:=[.f .f32 x.a0_,.f .f32 x.a1_,.f .f32 x.a2_,.f .f32 x.a3_,.f .f32 x.a4_,.f .f32 x.a5_]
section
variable {x : T148}
@[simp] theorem pT148_len : (Yr x).length = 6:=rfl
@[simp] theorem pT148_0 : (Yr x)[0]? = some (.f .f32 x.a0_):=rfl
@[simp] theorem pT148_g0 (h : 0 < (Yr x).length) : (Yr x)[0] = .f .f32 x.a0_:=rfl
@[simp] theorem pT148_1 : (Yr x)[1]? = some (.f .f32 x.a1_):=rfl
@[simp] theorem pT148_g1 (h : 1 < (Yr x).length) : (Yr x)[1] = .f .f32 x.a1_:=rfl
@[simp] theorem pT148_2 : (Yr x)[2]? = some (.f .f32 x.a2_):=rfl
@[simp] theorem pT148_g2 (h : 2 < (Yr x).length) : (Yr x)[2] = .f .f32 x.a2_:=rfl
@[simp] theorem pT148_3 : (Yr x)[3]? = some (.f .f32 x.a3_):=rfl
@[simp] theorem pT148_g3 (h : 3 < (Yr x).length) : (Yr x)[3] = .f .f32 x.a3_:=rfl
@[simp] theorem pT148_4 : (Yr x)[4]? = some (.f .f32 x.a4_):=rfl
@[simp] theorem pT148_g4 (h : 4 < (Yr x).length) : (Yr x)[4] = .f .f32 x.a4_:=rfl
@[simp] theorem pT148_5 : (Yr x)[5]? = some (.f .f32 x.a5_):=rfl
@[simp] theorem pT148_g5 (h : 5 < (Yr x).length) : (Yr x)[5] = .f .f32 x.a5_:=rfl
@[simp] theorem pT148_c0 : Xz 1 6 ((Yr x).drop 0) = rows Zv [x.a0_,x.a1_,x.a2_,x.a3_,x.a4_,x.a5_]:=rfl
@[simp] theorem pT148_c : Xz 1 6 (Yr x) = rows Zv [x.a0_,x.a1_,x.a2_,x.a3_,x.a4_,x.a5_]:=rfl
@[simp] theorem pT148_un1 : (Yr x).map un1 = Yr x:=rfl
@[simp] theorem pT148_snap : Us (Yr x) = true:=by simp [Yr]
@[simp] theorem pT148_cell : (Yr x).all Wn = true:=by simp [Yr]
@[simp high] theorem pT148_vc : Um (.agg (Yr x)) = some (Yr x):=by simp [Yr]
@[simp] theorem pT148_noB {b : Nat} : (Yr x).all (Wo b) = true:=by simp [Yr]
@[simp] theorem pT148_bnd {k : Nat} : (Yr x).all (Zs k) = true:=by simp [Yr,Zs]
@[simp] theorem pT148_re {m : VM} : Ko m (Yr x) = some (Yr x):=by simp [Yr]
end
@[simp] def Jo (x : T148) : List V:=[.f .f32 x.a0_,.f .f32 x.a1_,.f .f32 x.a2_,.f .f32 x.a3_,.f .f32 x.a4_,.f .f32 x.a5_]
instance : Pln Jo:=⟨fun x => by simp⟩
@[simp] theorem cT148_len {x : T148} : (Jo x).length = 6:=rfl
@[simp] theorem cT148_set {xs : List T148} {i : Nat} {a0 : F32} {a1 : F32} {a2 : F32} {a3 : F32} {a4 : F32} {a5 : F32} : (rows Jo xs).set i [.f .f32 a0,.f .f32 a1,.f .f32 a2,.f .f32 a3,.f .f32 a4,.f .f32 a5] = rows Jo (xs.set i (⟨a0,a1,a2,a3,a4,a5⟩ : T148)):=Xo (c:=Jo) (x:=(⟨a0,a1,a2,a3,a4,a5⟩ : T148))
@[simp] theorem cT148_snoc {xs : List T148} {a0 : F32} {a1 : F32} {a2 : F32} {a3 : F32} {a4 : F32} {a5 : F32} : rows Jo xs ++ [[.f .f32 a0,.f .f32 a1,.f .f32 a2,.f .f32 a3,.f .f32 a4,.f .f32 a5]] = rows Jo (xs ++ [(⟨a0,a1,a2,a3,a4,a5⟩ : T148)]):=Xd (c:=Jo) (x:=(⟨a0,a1,a2,a3,a4,a5⟩ : T148))
@[simp] theorem cT148_rep {n : Nat} {a0 : F32} {a1 : F32} {a2 : F32} {a3 : F32} {a4 : F32} {a5 : F32} : List.replicate n [.f .f32 a0,.f .f32 a1,.f .f32 a2,.f .f32 a3,.f .f32 a4,.f .f32 a5] = rows Jo (List.replicate n (⟨a0,a1,a2,a3,a4,a5⟩ : T148)):=Xp (c:=Jo) (x:=(⟨a0,a1,a2,a3,a4,a5⟩ : T148))
theorem cT148_inj (x y : T148) (h : Jo x = Jo y) : x = y:=by
 obtain ⟨i571,i572,i573,i574,i575,i576⟩:=x
 obtain ⟨i577,i578,i579,i580,i581,i582⟩:=y
 simp only [Jo,List.cons.injEq,V.i.injEq,V.b.injEq,V.f.injEq,V.str.injEq,V.sl.injEq,V.own.injEq,true_and,and_true] at h
 simp_all
@[simp] def Ub (x : T87) : List V:=[.i .i64 x.room_,.i .i64 x.flue_,.i .i64 x.brain_,.own 18 (rows Yk x.stove_.logs_),.f .f32 x.stove_.box_,.f .f32 x.stove_.damper_,.i .i8 x.stove_.state_,.i .i64 x.stove_.ash_,.f .f32 x.stove_.dust_]
instance : Pow Ub:=⟨fun x => by simp⟩
@[simp] theorem cT87o_unE {xs : List T87} : unE (rows Ub xs) = rows Wb xs:=by
 induction xs with
 | nil => rfl
 | cons x xs ih => simp [ih]
@[simp] theorem cT87o_frzE {xs : List T87} : Jk (rows Ub xs) = rows Wb xs:=by
 induction xs with
 | nil => rfl
 | cons x xs ih => simp [ih,Jk,Qv,frz]
@[simp] theorem cT87o_rep0 {n : Nat} : List.replicate n ([.i .i64 0,.i .i64 0,.i .i64 0,.own 18 [],.f .f32 (some 0),.f .f32 (some 0),.i .i8 0,.i .i64 0,.f .f32 (some 0)] : List V) = rows Ub (List.replicate n (⟨0,0,0,(⟨[],(some 0),(some 0),0,0,(some 0)⟩ : T85)⟩ : T87)):=by simp [rows]
@[simp] theorem cT87o_len {x : T87} : (Ub x).length = 9:=rfl
@[simp] theorem cT87o_set {xs : List T87} {i : Nat} {a0 : Int} {a1 : Int} {a2 : Int} {a3 : List T149} {a4 : F32} {a5 : F32} {a6 : Int} {a7 : Int} {a8 : F32} : (rows Ub xs).set i [.i .i64 a0,.i .i64 a1,.i .i64 a2,.own 18 (rows Yk a3),.f .f32 a4,.f .f32 a5,.i .i8 a6,.i .i64 a7,.f .f32 a8] = rows Ub (xs.set i (⟨a0,a1,a2,(⟨a3,a4,a5,a6,a7,a8⟩ : T85)⟩ : T87)):=Xo (c:=Ub) (x:=(⟨a0,a1,a2,(⟨a3,a4,a5,a6,a7,a8⟩ : T85)⟩ : T87))
@[simp] theorem cT87o_snoc {xs : List T87} {a0 : Int} {a1 : Int} {a2 : Int} {a3 : List T149} {a4 : F32} {a5 : F32} {a6 : Int} {a7 : Int} {a8 : F32} : rows Ub xs ++ [[.i .i64 a0,.i .i64 a1,.i .i64 a2,.own 18 (rows Yk a3),.f .f32 a4,.f .f32 a5,.i .i8 a6,.i .i64 a7,.f .f32 a8]] = rows Ub (xs ++ [(⟨a0,a1,a2,(⟨a3,a4,a5,a6,a7,a8⟩ : T85)⟩ : T87)]):=Xd (c:=Ub) (x:=(⟨a0,a1,a2,(⟨a3,a4,a5,a6,a7,a8⟩ : T85)⟩ : T87))
@[simp] theorem cT87o_rep {n : Nat} {a0 : Int} {a1 : Int} {a2 : Int} {a3 : List T149} {a4 : F32} {a5 : F32} {a6 : Int} {a7 : Int} {a8 : F32} : List.replicate n [.i .i64 a0,.i .i64 a1,.i .i64 a2,.own 18 (rows Yk a3),.f .f32 a4,.f .f32 a5,.i .i8 a6,.i .i64 a7,.f .f32 a8] = rows Ub (List.replicate n (⟨a0,a1,a2,(⟨a3,a4,a5,a6,a7,a8⟩ : T85)⟩ : T87)):=Xp (c:=Ub) (x:=(⟨a0,a1,a2,(⟨a3,a4,a5,a6,a7,a8⟩ : T85)⟩ : T87))
theorem cT87o_inj (x y : T87) (h : Ub x = Ub y) : x = y:=by
 obtain ⟨i663,i664,i665,⟨i666,i667,i668,i669,i670,i671⟩⟩:=x
 obtain ⟨i672,i673,i674,⟨i675,i676,i677,i678,i679,i680⟩⟩:=y
 simp only [Ub,List.cons.injEq,V.i.injEq,V.b.injEq,V.f.injEq,V.str.injEq,V.sl.injEq,V.own.injEq,true_and,and_true] at h
 simp_all [ri Gc]
theorem okx108 : TellsX Tryz.prog 108 Gi:=TellsX.of (e:=Extern.MathFloatBits.float32bits) Tryz.func108 (by kernel_rfl) (by kernel_rfl) (by kernel_rfl) (by kernel_rfl) (xbits32)
theorem okx154 : TellsX Tryz.prog 154 FXof64:=TellsX.of (e:=Extern.MathFloatBits.float64frombits) Tryz.func154 (by kernel_rfl) (by kernel_rfl) (by kernel_rfl) (by kernel_rfl) (xof64)
theorem okx155 : TellsX Tryz.prog 155 FXbits64:=TellsX.of (e:=Extern.MathFloatBits.float64bits) Tryz.func155 (by kernel_rfl) (by kernel_rfl) (by kernel_rfl) (by kernel_rfl) (xbits64)
@[simp] theorem cs__iff {xs ys} : rows Yt xs = rows Yt ys ↔ xs = ys:=ri cs__inj
@[simp] theorem cT189_iff {xs ys} : rows Yh xs = rows Yh ys ↔ xs = ys:=ri cT189_inj
@[simp] theorem cf_f32_iff {xs ys} : rows Zv xs = rows Zv ys ↔ xs = ys:=ri cf_f32_inj
@[simp] theorem cT131_iff {xs ys} : rows Yv xs = rows Yv ys ↔ xs = ys:=ri cT131_inj
@[simp] theorem cT134_iff {xs ys} : rows Yw xs = rows Yw ys ↔ xs = ys:=ri cT134_inj
@[simp] theorem cT25_iff {xs ys} : rows cT25 xs = rows cT25 ys ↔ xs = ys:=ri cT25_inj
@[simp] theorem cT32_iff {xs ys} : rows Xw xs = rows Xw ys ↔ xs = ys:=ri cT32_inj
@[simp] theorem cT149_iff {xs ys} : rows Yk xs = rows Yk ys ↔ xs = ys:=ri Gc
@[simp] theorem cT85_iff {xs ys} : rows cT85 xs = rows cT85 ys ↔ xs = ys:=ri cT85_inj
@[simp] theorem cT87_iff {xs ys} : rows Wb xs = rows Wb ys ↔ xs = ys:=ri cT87_inj
@[simp] theorem cT51_iff {xs ys} : rows Wp xs = rows Wp ys ↔ xs = ys:=ri cT51_inj
@[simp] theorem cT34_iff {xs ys} : rows cT34 xs = rows cT34 ys ↔ xs = ys:=ri cT34_inj
@[simp] theorem ci_i64_iff {xs ys} : rows Ww xs = rows Ww ys ↔ xs = ys:=ri ci_i64_inj
@[simp] theorem cT130_iff {xs ys} : rows Jp xs = rows Jp ys ↔ xs = ys:=ri cT130_inj
@[simp] theorem cT148_iff {xs ys} : rows Jo xs = rows Jo ys ↔ xs = ys:=ri cT148_inj
@[simp] theorem cT87o_iff {xs ys} : rows Ub xs = rows Ub ys ↔ xs = ys:=ri cT87o_inj
@[simp] theorem pT25_iff {x y : T25} : Wa x = Wa y ↔ x = y:=⟨fun h => by
 obtain ⟨x1,x2,x3,x4⟩:=x
 obtain ⟨y1,y2,y3,y4⟩:=y
 simp only [Wa,List.cons.injEq,V.i.injEq,V.b.injEq,V.f.injEq,V.str.injEq,V.sl.injEq,V.agg.injEq,V.cptr.injEq,true_and,and_true] at h
 simp_all,fun h => by rw [h]⟩
@[simp] theorem pT85_iff {x y : T85} : Wd x = Wd y ↔ x = y:=⟨fun h => by
 obtain ⟨x1,x2,x3,x4,x5,x6⟩:=x
 obtain ⟨y1,y2,y3,y4,y5,y6⟩:=y
 simp only [Wd,List.cons.injEq,V.i.injEq,V.b.injEq,V.f.injEq,V.str.injEq,V.sl.injEq,V.agg.injEq,V.cptr.injEq,true_and,and_true] at h
 simp_all,fun h => by rw [h]⟩
@[simp] theorem pT87_iff {x y : T87} : Wk x = Wk y ↔ x = y:=⟨fun h => by
 obtain ⟨x1,x2,x3,⟨x4,x5,x6,x7,x8,x9⟩⟩:=x
 obtain ⟨y1,y2,y3,⟨y4,y5,y6,y7,y8,y9⟩⟩:=y
 simp only [Wk,List.cons.injEq,V.i.injEq,V.b.injEq,V.f.injEq,V.str.injEq,V.sl.injEq,V.agg.injEq,V.cptr.injEq,true_and,and_true] at h
 simp_all,fun h => by rw [h]⟩
@[simp] theorem pT34_iff {x y : T34} : Yi x = Yi y ↔ x = y:=⟨fun h => by
 obtain ⟨⟨x1,x2,x3,x4⟩,x5,x6,x7,x8,x9,⟨x10,x11,x12,x13,x14⟩⟩:=x
 obtain ⟨⟨y1,y2,y3,y4⟩,y5,y6,y7,y8,y9,⟨y10,y11,y12,y13,y14⟩⟩:=y
 simp only [Yi,List.cons.injEq,V.i.injEq,V.b.injEq,V.f.injEq,V.str.injEq,V.sl.injEq,V.agg.injEq,V.cptr.injEq,true_and,and_true] at h
 simp_all,fun h => by rw [h]⟩
@[simp] theorem pT131_iff {x y : T131} : Xh x = Xh y ↔ x = y:=⟨fun h => by
 obtain ⟨x1,x2,x3,x4,⟨x5,x6,x7,x8⟩⟩:=x
 obtain ⟨y1,y2,y3,y4,⟨y5,y6,y7,y8⟩⟩:=y
 simp only [Xh,List.cons.injEq,V.i.injEq,V.b.injEq,V.f.injEq,V.str.injEq,V.sl.injEq,V.agg.injEq,V.cptr.injEq,true_and,and_true] at h
 simp_all,fun h => by rw [h]⟩
@[simp] theorem pT134_iff {x y : T134} : Xs x = Xs y ↔ x = y:=⟨fun h => by
 obtain ⟨x1,x2,x3,x4⟩:=x
 obtain ⟨y1,y2,y3,y4⟩:=y
 simp only [Xs,List.cons.injEq,V.i.injEq,V.b.injEq,V.f.injEq,V.str.injEq,V.sl.injEq,V.agg.injEq,V.cptr.injEq,true_and,and_true] at h
 simp_all,fun h => by rw [h]⟩
@[simp] theorem pT32_iff {x y : T32} : Xk x = Xk y ↔ x = y:=⟨fun h => by
 obtain ⟨x1,x2,x3,x4,x5⟩:=x
 obtain ⟨y1,y2,y3,y4,y5⟩:=y
 simp only [Xk,List.cons.injEq,V.i.injEq,V.b.injEq,V.f.injEq,V.str.injEq,V.sl.injEq,V.agg.injEq,V.cptr.injEq,true_and,and_true] at h
 simp_all,fun h => by rw [h]⟩
@[simp] theorem pT51_iff {x y : T51} : Uo x = Uo y ↔ x = y:=⟨fun h => by
 obtain ⟨x1,x2,x3⟩:=x
 obtain ⟨y1,y2,y3⟩:=y
 simp only [Uo,List.cons.injEq,V.i.injEq,V.b.injEq,V.f.injEq,V.str.injEq,V.sl.injEq,V.agg.injEq,V.cptr.injEq,true_and,and_true] at h
 simp_all,fun h => by rw [h]⟩
@[simp] theorem pT204_iff {x y : T204} : Wm x = Wm y ↔ x = y:=⟨fun h => by
 obtain ⟨x1,x2,x3,x4⟩:=x
 obtain ⟨y1,y2,y3,y4⟩:=y
 simp only [Wm,List.cons.injEq,V.i.injEq,V.b.injEq,V.f.injEq,V.str.injEq,V.sl.injEq,V.agg.injEq,V.cptr.injEq,true_and,and_true] at h
 simp_all,fun h => by rw [h]⟩
@[simp] theorem pT149_iff {x y : T149} : Ya x = Ya y ↔ x = y:=⟨fun h => by
 obtain ⟨⟨x1,x2,x3,x4,x5,x6⟩,⟨x7,x8,x9,x10,x11,x12⟩,⟨x13,x14,x15,x16,x17,x18⟩⟩:=x
 obtain ⟨⟨y1,y2,y3,y4,y5,y6⟩,⟨y7,y8,y9,y10,y11,y12⟩,⟨y13,y14,y15,y16,y17,y18⟩⟩:=y
 simp only [Ya,List.cons.injEq,V.i.injEq,V.b.injEq,V.f.injEq,V.str.injEq,V.sl.injEq,V.agg.injEq,V.cptr.injEq,true_and,and_true] at h
 simp_all,fun h => by rw [h]⟩
@[simp] theorem pT130_iff {x y : T130} : Xc x = Xc y ↔ x = y:=⟨fun h => by
 obtain ⟨x1,x2,x3,x4⟩:=x
 obtain ⟨y1,y2,y3,y4⟩:=y
 simp only [Xc,List.cons.injEq,V.i.injEq,V.b.injEq,V.f.injEq,V.str.injEq,V.sl.injEq,V.agg.injEq,V.cptr.injEq,true_and,and_true] at h
 simp_all,fun h => by rw [h]⟩
@[simp] theorem pT148_iff {x y : T148} : Yr x = Yr y ↔ x = y:=⟨fun h => by
 obtain ⟨x1,x2,x3,x4,x5,x6⟩:=x
 obtain ⟨y1,y2,y3,y4,y5,y6⟩:=y
 simp only [Yr,List.cons.injEq,V.i.injEq,V.b.injEq,V.f.injEq,V.str.injEq,V.sl.injEq,V.agg.injEq,V.cptr.injEq,true_and,and_true] at h
 simp_all,fun h => by rw [h]⟩
@[simp] def Zw (pc : List T189) (xparts_ : List ByteArray) (xnames_ : List ByteArray) (xcode_ : List T189) (xbad_ : Bool) : VM:=[some (2,[[.nil,.nil]]),some (2,[[.ref 2 0 xnames_.length,.ref 3 0 pc.length]]),some (1,rows Yt xnames_),some (3,rows Yh pc),some (4,[[.sl 1 (rows Yt xparts_),.ref 2 0 xnames_.length,.ref 5 0 xcode_.length,.b xbad_]]),some (3,rows Yh xcode_)]
@[simp] def Zi (pc : List T189) (xline_ : ByteArray) (xat_ : Int) (xnames_ : List ByteArray) (xcode_ : List T189) (xbad_ : Bool) : VM:=[some (2,[[.nil,.nil]]),some (2,[[.ref 2 0 xnames_.length,.ref 3 0 pc.length]]),some (1,rows Yt xnames_),some (3,rows Yh pc),some (5,[[.str xline_,.i .i64 xat_,.ref 2 0 xnames_.length,.ref 5 0 xcode_.length,.b xbad_]]),some (3,rows Yh xcode_)]
end Go.Proofs.YtloepppmjppddaaGreatDoor
