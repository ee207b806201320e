/- The types of the seat. -/
import Derived.Test.YtloepppmjppddaaGreatDoorVxGi
import Derived.Test.YtloepppmjppddaaGreatDoorVxGh
import Derived.Test.YtloepppmjppddaaGreatDoorShelf
import Derived.Test.YtloepppmjppddaaGreatDoorProg
import Derived.KernelRfl
namespace Go.Proofs.YtloepppmjppddaaGreatDoor
open Go.RowKit Go.VL
set_option linter.unusedSimpArgs false
set_option linter.unusedVariables false
set_option maxHeartbeats 40000000
set_option maxRecDepth 100000
@[simp] theorem y_2 : tk Tryz.prog 2 = .int .i64∧Tryz.prog.cellsOf 2 = 1∧Uu Tryz.prog 2 = 1∧Xe Tryz.prog 2 = false∧Yo Tryz.prog 2 = some [.int .i64 0]∧Tryz.prog.bytesOf 2 = 8:=by and_intros <;> kernel_rfl
@[simp] theorem y_3 : tk Tryz.prog 3 = .int .i64∧Tryz.prog.cellsOf 3 = 1∧Uu Tryz.prog 3 = 1∧Xe Tryz.prog 3 = false∧Yo Tryz.prog 3 = some [.int .i64 0]∧Tryz.prog.bytesOf 3 = 8:=by and_intros <;> kernel_rfl
@[simp] theorem y_4 : tk Tryz.prog 4 = .bool∧Tryz.prog.cellsOf 4 = 1∧Uu Tryz.prog 4 = 1∧Xe Tryz.prog 4 = false∧Yo Tryz.prog 4 = some [.bool false]∧Tryz.prog.bytesOf 4 = 1:=by and_intros <;> kernel_rfl
@[simp] theorem y_5 : tk Tryz.prog 5 = .int .u8∧Tryz.prog.cellsOf 5 = 1∧Uu Tryz.prog 5 = 1∧Xe Tryz.prog 5 = false∧Yo Tryz.prog 5 = some [.int .u8 0]∧Tryz.prog.bytesOf 5 = 1:=by and_intros <;> kernel_rfl
@[simp] theorem y_9 : tk Tryz.prog 9 = .str∧Tryz.prog.cellsOf 9 = 1∧Uu Tryz.prog 9 = 1∧Xe Tryz.prog 9 = false∧Yo Tryz.prog 9 = some [.string ByteArray.empty]∧Tryz.prog.bytesOf 9 = 16:=by and_intros <;> kernel_rfl
@[simp] theorem y_22 : tk Tryz.prog 22 = .slice 31∧Tryz.prog.cellsOf 22 = 1∧Uu Tryz.prog 22 = 1∧Xe Tryz.prog 22 = false∧Yo Tryz.prog 22 = some [.slice none 0 0]∧Tryz.prog.bytesOf 22 = 24:=by and_intros <;> kernel_rfl
@[simp] theorem y_23 : tk Tryz.prog 23 = .slice 178∧Tryz.prog.cellsOf 23 = 1∧Uu Tryz.prog 23 = 1∧Xe Tryz.prog 23 = false∧Yo Tryz.prog 23 = some [.slice none 0 0]∧Tryz.prog.bytesOf 23 = 24:=by and_intros <;> kernel_rfl
@[simp] theorem y_24 : tk Tryz.prog 24 = .slice 180∧Tryz.prog.cellsOf 24 = 1∧Uu Tryz.prog 24 = 1∧Xe Tryz.prog 24 = false∧Yo Tryz.prog 24 = some [.slice none 0 0]∧Tryz.prog.bytesOf 24 = 24:=by and_intros <;> kernel_rfl
@[simp] theorem y_26 : tk Tryz.prog 26 = .struct [(0,1,false),(1,1,false),(2,1,false),(3,1,false)]∧Tryz.prog.cellsOf 26 = 4∧Uu Tryz.prog 26 = 4∧Xe Tryz.prog 26 = true∧Yo Tryz.prog 26 = some [.slice none 0 0,.slice none 0 0,.slice none 0 0,.slice none 0 0]∧Tryz.prog.bytesOf 26 = 96:=by and_intros <;> kernel_rfl
@[simp] theorem y_27 : tk Tryz.prog 27 = .slice 126∧Tryz.prog.cellsOf 27 = 1∧Uu Tryz.prog 27 = 1∧Xe Tryz.prog 27 = false∧Yo Tryz.prog 27 = some [.slice none 0 0]∧Tryz.prog.bytesOf 27 = 24:=by and_intros <;> kernel_rfl
@[simp] theorem y_28 : tk Tryz.prog 28 = .slice 110∧Tryz.prog.cellsOf 28 = 1∧Uu Tryz.prog 28 = 1∧Xe Tryz.prog 28 = false∧Yo Tryz.prog 28 = some [.slice none 0 0]∧Tryz.prog.bytesOf 28 = 24:=by and_intros <;> kernel_rfl
@[simp] theorem y_29 : tk Tryz.prog 29 = .slice 9∧Tryz.prog.cellsOf 29 = 1∧Uu Tryz.prog 29 = 1∧Xe Tryz.prog 29 = false∧Yo Tryz.prog 29 = some [.slice none 0 0]∧Tryz.prog.bytesOf 29 = 24:=by and_intros <;> kernel_rfl
@[simp] theorem y_30 : tk Tryz.prog 30 = .slice 129∧Tryz.prog.cellsOf 30 = 1∧Uu Tryz.prog 30 = 1∧Xe Tryz.prog 30 = false∧Yo Tryz.prog 30 = some [.slice none 0 0]∧Tryz.prog.bytesOf 30 = 24:=by and_intros <;> kernel_rfl
@[simp] theorem y_31 : tk Tryz.prog 31 = .flt .f32∧Tryz.prog.cellsOf 31 = 1∧Uu Tryz.prog 31 = 1∧Xe Tryz.prog 31 = false∧Yo Tryz.prog 31 = some [.float .f32 0]∧Tryz.prog.bytesOf 31 = 4:=by and_intros <;> kernel_rfl
@[simp] theorem y_33 : tk Tryz.prog 33 = .struct [(0,1,false),(1,1,false),(2,1,false),(3,1,false),(4,1,false)]∧Tryz.prog.cellsOf 33 = 5∧Uu Tryz.prog 33 = 5∧Xe Tryz.prog 33 = true∧Yo Tryz.prog 33 = some [.float .f32 0,.float .f32 0,.float .f32 0,.float .f32 0,.int .i64 0]∧Tryz.prog.bytesOf 33 = 24:=by and_intros <;> kernel_rfl
@[simp] theorem y_35 : tk Tryz.prog 35 = .struct [(0,4,true),(4,1,false),(5,1,false),(6,1,false),(7,1,false),(8,1,false),(9,5,true)]∧Tryz.prog.cellsOf 35 = 14∧Uu Tryz.prog 35 = 14∧Xe Tryz.prog 35 = true∧Yo Tryz.prog 35 = some [.slice none 0 0,.slice none 0 0,.slice none 0 0,.slice none 0 0,.slice none 0 0,.slice none 0 0,.slice none 0 0,.slice none 0 0,.int .i64 0,.float .f32 0,.float .f32 0,.float .f32 0,.float .f32 0,.int .i64 0]∧Tryz.prog.bytesOf 35 = 224:=by and_intros <;> kernel_rfl
@[simp] theorem y_38 : tk Tryz.prog 38 = .slice 132∧Tryz.prog.cellsOf 38 = 1∧Uu Tryz.prog 38 = 1∧Xe Tryz.prog 38 = false∧Yo Tryz.prog 38 = some [.slice none 0 0]∧Tryz.prog.bytesOf 38 = 24:=by and_intros <;> kernel_rfl
@[simp] theorem y_39 : tk Tryz.prog 39 = .slice 135∧Tryz.prog.cellsOf 39 = 1∧Uu Tryz.prog 39 = 1∧Xe Tryz.prog 39 = false∧Yo Tryz.prog 39 = some [.slice none 0 0]∧Tryz.prog.bytesOf 39 = 24:=by and_intros <;> kernel_rfl
@[simp] theorem y_41 : tk Tryz.prog 41 = .struct [(0,1,false),(1,1,false),(2,1,false),(3,1,false)]∧Tryz.prog.cellsOf 41 = 4∧Uu Tryz.prog 41 = 4∧Xe Tryz.prog 41 = true∧Yo Tryz.prog 41 = some [.slice none 0 0,.slice none 0 0,.slice none 0 0,.slice none 0 0]∧Tryz.prog.bytesOf 41 = 96:=by and_intros <;> kernel_rfl
@[simp] theorem y_42 : tk Tryz.prog 42 = .slice 124∧Tryz.prog.cellsOf 42 = 1∧Uu Tryz.prog 42 = 1∧Xe Tryz.prog 42 = false∧Yo Tryz.prog 42 = some [.slice none 0 0]∧Tryz.prog.bytesOf 42 = 24:=by and_intros <;> kernel_rfl
@[simp] theorem y_43 : tk Tryz.prog 43 = .slice 88∧Tryz.prog.cellsOf 43 = 1∧Uu Tryz.prog 43 = 1∧Xe Tryz.prog 43 = false∧Yo Tryz.prog 43 = some [.slice none 0 0]∧Tryz.prog.bytesOf 43 = 24:=by and_intros <;> kernel_rfl
@[simp] theorem y_44 : tk Tryz.prog 44 = .slice 52∧Tryz.prog.cellsOf 44 = 1∧Uu Tryz.prog 44 = 1∧Xe Tryz.prog 44 = false∧Yo Tryz.prog 44 = some [.slice none 0 0]∧Tryz.prog.bytesOf 44 = 24:=by and_intros <;> kernel_rfl
@[simp] theorem y_45 : tk Tryz.prog 45 = .struct [(0,1,false),(1,1,false),(2,1,false),(3,1,false),(4,1,false)]∧Tryz.prog.cellsOf 45 = 5∧Uu Tryz.prog 45 = 5∧Xe Tryz.prog 45 = true∧Yo Tryz.prog 45 = some [.float .f32 0,.float .f32 0,.float .f32 0,.float .f32 0,.int .i64 0]∧Tryz.prog.bytesOf 45 = 24:=by and_intros <;> kernel_rfl
@[simp] theorem y_47 : tk Tryz.prog 47 = .struct [(0,4,true),(4,1,false),(5,1,false),(6,1,false),(7,1,false),(8,1,false),(9,5,true)]∧Tryz.prog.cellsOf 47 = 14∧Uu Tryz.prog 47 = 14∧Xe Tryz.prog 47 = true∧Yo Tryz.prog 47 = some [.slice none 0 0,.slice none 0 0,.slice none 0 0,.slice none 0 0,.slice none 0 0,.slice none 0 0,.slice none 0 0,.slice none 0 0,.int .i64 0,.float .f32 0,.float .f32 0,.float .f32 0,.float .f32 0,.int .i64 0]∧Tryz.prog.bytesOf 47 = 224:=by and_intros <;> kernel_rfl
@[simp] theorem y_52 : tk Tryz.prog 52 = .struct [(0,1,false),(1,1,false),(2,1,false)]∧Tryz.prog.cellsOf 52 = 3∧Uu Tryz.prog 52 = 3∧Xe Tryz.prog 52 = true∧Yo Tryz.prog 52 = some [.float .f32 0,.float .f32 0,.float .f32 0]∧Tryz.prog.bytesOf 52 = 12:=by and_intros <;> kernel_rfl
@[simp] theorem y_59 : tk Tryz.prog 59 = .flt .f64∧Tryz.prog.cellsOf 59 = 1∧Uu Tryz.prog 59 = 1∧Xe Tryz.prog 59 = false∧Yo Tryz.prog 59 = some [.float .f64 0]∧Tryz.prog.bytesOf 59 = 8:=by and_intros <;> kernel_rfl
@[simp] theorem y_66 : tk Tryz.prog 66 = .ptr 47∧Tryz.prog.cellsOf 66 = 1∧Uu Tryz.prog 66 = 1∧Xe Tryz.prog 66 = false∧Yo Tryz.prog 66 = some [.pointer none]∧Tryz.prog.bytesOf 66 = 8:=by and_intros <;> kernel_rfl
@[simp] theorem y_78 : tk Tryz.prog 78 = .slice 190∧Tryz.prog.cellsOf 78 = 1∧Uu Tryz.prog 78 = 1∧Xe Tryz.prog 78 = false∧Yo Tryz.prog 78 = some [.slice none 0 0]∧Tryz.prog.bytesOf 78 = 24:=by and_intros <;> kernel_rfl
@[simp] theorem y_80 : tk Tryz.prog 80 = .struct [(0,1,false),(1,1,false)]∧Tryz.prog.cellsOf 80 = 2∧Uu Tryz.prog 80 = 2∧Xe Tryz.prog 80 = true∧Yo Tryz.prog 80 = some [.slice none 0 0,.slice none 0 0]∧Tryz.prog.bytesOf 80 = 48:=by and_intros <;> kernel_rfl
@[simp] theorem y_83 : tk Tryz.prog 83 = .slice 150∧Tryz.prog.cellsOf 83 = 1∧Uu Tryz.prog 83 = 1∧Xe Tryz.prog 83 = false∧Yo Tryz.prog 83 = some [.slice none 0 0]∧Tryz.prog.bytesOf 83 = 24:=by and_intros <;> kernel_rfl
@[simp] theorem y_84 : tk Tryz.prog 84 = .int .i8∧Tryz.prog.cellsOf 84 = 1∧Uu Tryz.prog 84 = 1∧Xe Tryz.prog 84 = false∧Yo Tryz.prog 84 = some [.int .i8 0]∧Tryz.prog.bytesOf 84 = 1:=by and_intros <;> kernel_rfl
@[simp] theorem y_86 : tk Tryz.prog 86 = .struct [(0,1,false),(1,1,false),(2,1,false),(3,1,false),(4,1,false),(5,1,false)]∧Tryz.prog.cellsOf 86 = 6∧Uu Tryz.prog 86 = 6∧Xe Tryz.prog 86 = true∧Yo Tryz.prog 86 = some [.slice none 0 0,.float .f32 0,.float .f32 0,.int .i8 0,.int .i64 0,.float .f32 0]∧Tryz.prog.bytesOf 86 = 56:=by and_intros <;> kernel_rfl
@[simp] theorem y_88 : tk Tryz.prog 88 = .struct [(0,1,false),(1,1,false),(2,1,false),(3,6,true)]∧Tryz.prog.cellsOf 88 = 9∧Uu Tryz.prog 88 = 9∧Xe Tryz.prog 88 = true∧Yo Tryz.prog 88 = some [.int .i64 0,.int .i64 0,.int .i64 0,.slice none 0 0,.float .f32 0,.float .f32 0,.int .i8 0,.int .i64 0,.float .f32 0]∧Tryz.prog.bytesOf 88 = 80:=by and_intros <;> kernel_rfl
@[simp] theorem y_106 : tk Tryz.prog 106 = .slice 215∧Tryz.prog.cellsOf 106 = 1∧Uu Tryz.prog 106 = 1∧Xe Tryz.prog 106 = false∧Yo Tryz.prog 106 = some [.slice none 0 0]∧Tryz.prog.bytesOf 106 = 24:=by and_intros <;> kernel_rfl
@[simp] theorem y_108 : tk Tryz.prog 108 = .struct [(0,1,false),(1,1,false),(2,1,false),(3,1,false),(4,1,false),(5,1,false)]∧Tryz.prog.cellsOf 108 = 6∧Uu Tryz.prog 108 = 6∧Xe Tryz.prog 108 = true∧Yo Tryz.prog 108 = some [.slice none 0 0,.float .f32 0,.float .f32 0,.int .i8 0,.int .i64 0,.float .f32 0]∧Tryz.prog.bytesOf 108 = 56:=by and_intros <;> kernel_rfl
@[simp] theorem y_110 : tk Tryz.prog 110 = .struct [(0,1,false),(1,1,false),(2,1,false),(3,6,true)]∧Tryz.prog.cellsOf 110 = 9∧Uu Tryz.prog 110 = 9∧Xe Tryz.prog 110 = true∧Yo Tryz.prog 110 = some [.int .i64 0,.int .i64 0,.int .i64 0,.slice none 0 0,.float .f32 0,.float .f32 0,.int .i8 0,.int .i64 0,.float .f32 0]∧Tryz.prog.bytesOf 110 = 80:=by and_intros <;> kernel_rfl
@[simp] theorem y_112 : tk Tryz.prog 112 = .ptr 41∧Tryz.prog.cellsOf 112 = 1∧Uu Tryz.prog 112 = 1∧Xe Tryz.prog 112 = false∧Yo Tryz.prog 112 = some [.pointer none]∧Tryz.prog.bytesOf 112 = 8:=by and_intros <;> kernel_rfl
@[simp] theorem y_115 : tk Tryz.prog 115 = .ptr 45∧Tryz.prog.cellsOf 115 = 1∧Uu Tryz.prog 115 = 1∧Xe Tryz.prog 115 = false∧Yo Tryz.prog 115 = some [.pointer none]∧Tryz.prog.bytesOf 115 = 8:=by and_intros <;> kernel_rfl
@[simp] theorem y_117 : tk Tryz.prog 117 = .ptr 52∧Tryz.prog.cellsOf 117 = 1∧Uu Tryz.prog 117 = 1∧Xe Tryz.prog 117 = false∧Yo Tryz.prog 117 = some [.pointer none]∧Tryz.prog.bytesOf 117 = 8:=by and_intros <;> kernel_rfl
@[simp] theorem y_124 : tk Tryz.prog 124 = .struct [(0,1,false),(1,1,false),(2,1,false),(3,1,false),(4,1,false)]∧Tryz.prog.cellsOf 124 = 5∧Uu Tryz.prog 124 = 5∧Xe Tryz.prog 124 = true∧Yo Tryz.prog 124 = some [.float .f32 0,.float .f32 0,.float .f32 0,.float .f32 0,.int .i64 0]∧Tryz.prog.bytesOf 124 = 24:=by and_intros <;> kernel_rfl
@[simp] theorem y_126 : tk Tryz.prog 126 = .struct [(0,1,false),(1,1,false),(2,1,false),(3,1,false),(4,1,false)]∧Tryz.prog.cellsOf 126 = 5∧Uu Tryz.prog 126 = 5∧Xe Tryz.prog 126 = true∧Yo Tryz.prog 126 = some [.float .f32 0,.float .f32 0,.float .f32 0,.float .f32 0,.int .i64 0]∧Tryz.prog.bytesOf 126 = 24:=by and_intros <;> kernel_rfl
@[simp] theorem y_129 : tk Tryz.prog 129 = .struct [(0,1,false),(1,1,false),(2,1,false)]∧Tryz.prog.cellsOf 129 = 3∧Uu Tryz.prog 129 = 3∧Xe Tryz.prog 129 = true∧Yo Tryz.prog 129 = some [.float .f32 0,.float .f32 0,.float .f32 0]∧Tryz.prog.bytesOf 129 = 12:=by and_intros <;> kernel_rfl
@[simp] theorem y_130 : tk Tryz.prog 130 = .arr 4 31∧Tryz.prog.cellsOf 130 = 4∧Uu Tryz.prog 130 = 4∧Xe Tryz.prog 130 = true∧Yo Tryz.prog 130 = some [.float .f32 0,.float .f32 0,.float .f32 0,.float .f32 0]∧Tryz.prog.bytesOf 130 = 16:=by and_intros <;> kernel_rfl
@[simp] theorem y_132 : tk Tryz.prog 132 = .struct [(0,1,false),(1,1,false),(2,1,false),(3,1,false),(4,4,true)]∧Tryz.prog.cellsOf 132 = 8∧Uu Tryz.prog 132 = 8∧Xe Tryz.prog 132 = true∧Yo Tryz.prog 132 = some [.int .i64 0,.int .i64 0,.float .f32 0,.float .f32 0,.float .f32 0,.float .f32 0,.float .f32 0,.float .f32 0]∧Tryz.prog.bytesOf 132 = 40:=by and_intros <;> kernel_rfl
@[simp] theorem y_135 : tk Tryz.prog 135 = .struct [(0,1,false),(1,1,false),(2,1,false),(3,1,false)]∧Tryz.prog.cellsOf 135 = 4∧Uu Tryz.prog 135 = 4∧Xe Tryz.prog 135 = true∧Yo Tryz.prog 135 = some [.int .i64 0,.int .i64 0,.float .f32 0,.float .f32 0]∧Tryz.prog.bytesOf 135 = 24:=by and_intros <;> kernel_rfl
@[simp] theorem y_138 : tk Tryz.prog 138 = .ptr 140∧Tryz.prog.cellsOf 138 = 1∧Uu Tryz.prog 138 = 1∧Xe Tryz.prog 138 = false∧Yo Tryz.prog 138 = some [.pointer none]∧Tryz.prog.bytesOf 138 = 8:=by and_intros <;> kernel_rfl
@[simp] theorem y_140 : tk Tryz.prog 140 = .struct [(0,1,false),(1,1,false),(2,1,false),(3,1,false),(4,1,false)]∧Tryz.prog.cellsOf 140 = 5∧Uu Tryz.prog 140 = 5∧Xe Tryz.prog 140 = true∧Yo Tryz.prog 140 = some [.string ByteArray.empty,.int .i64 0,.slice none 0 0,.slice none 0 0,.bool false]∧Tryz.prog.bytesOf 140 = 80:=by and_intros <;> kernel_rfl
@[simp] theorem y_148 : tk Tryz.prog 148 = .arr 6 31∧Tryz.prog.cellsOf 148 = 6∧Uu Tryz.prog 148 = 6∧Xe Tryz.prog 148 = true∧Yo Tryz.prog 148 = some [.float .f32 0,.float .f32 0,.float .f32 0,.float .f32 0,.float .f32 0,.float .f32 0]∧Tryz.prog.bytesOf 148 = 24:=by and_intros <;> kernel_rfl
@[simp] theorem y_150 : tk Tryz.prog 150 = .struct [(0,6,true),(6,6,true),(12,6,true)]∧Tryz.prog.cellsOf 150 = 18∧Uu Tryz.prog 150 = 18∧Xe Tryz.prog 150 = true∧Yo Tryz.prog 150 = some [.float .f32 0,.float .f32 0,.float .f32 0,.float .f32 0,.float .f32 0,.float .f32 0,.float .f32 0,.float .f32 0,.float .f32 0,.float .f32 0,.float .f32 0,.float .f32 0,.float .f32 0,.float .f32 0,.float .f32 0,.float .f32 0,.float .f32 0,.float .f32 0]∧Tryz.prog.bytesOf 150 = 72:=by and_intros <;> kernel_rfl
@[simp] theorem y_152 : tk Tryz.prog 152 = .slice 3∧Tryz.prog.cellsOf 152 = 1∧Uu Tryz.prog 152 = 1∧Xe Tryz.prog 152 = false∧Yo Tryz.prog 152 = some [.slice none 0 0]∧Tryz.prog.bytesOf 152 = 24:=by and_intros <;> kernel_rfl
@[simp] theorem y_161 : tk Tryz.prog 161 = .ptr 86∧Tryz.prog.cellsOf 161 = 1∧Uu Tryz.prog 161 = 1∧Xe Tryz.prog 161 = false∧Yo Tryz.prog 161 = some [.pointer none]∧Tryz.prog.bytesOf 161 = 8:=by and_intros <;> kernel_rfl
@[simp] theorem y_163 : tk Tryz.prog 163 = .ptr 148∧Tryz.prog.cellsOf 163 = 1∧Uu Tryz.prog 163 = 1∧Xe Tryz.prog 163 = false∧Yo Tryz.prog 163 = some [.pointer none]∧Tryz.prog.bytesOf 163 = 8:=by and_intros <;> kernel_rfl
@[simp] theorem y_167 : tk Tryz.prog 167 = .ptr 132∧Tryz.prog.cellsOf 167 = 1∧Uu Tryz.prog 167 = 1∧Xe Tryz.prog 167 = false∧Yo Tryz.prog 167 = some [.pointer none]∧Tryz.prog.bytesOf 167 = 8:=by and_intros <;> kernel_rfl
@[simp] theorem y_169 : tk Tryz.prog 169 = .ptr 135∧Tryz.prog.cellsOf 169 = 1∧Uu Tryz.prog 169 = 1∧Xe Tryz.prog 169 = false∧Yo Tryz.prog 169 = some [.pointer none]∧Tryz.prog.bytesOf 169 = 8:=by and_intros <;> kernel_rfl
@[simp] theorem y_171 : tk Tryz.prog 171 = .ptr 124∧Tryz.prog.cellsOf 171 = 1∧Uu Tryz.prog 171 = 1∧Xe Tryz.prog 171 = false∧Yo Tryz.prog 171 = some [.pointer none]∧Tryz.prog.bytesOf 171 = 8:=by and_intros <;> kernel_rfl
@[simp] theorem y_175 : tk Tryz.prog 175 = .slice 2∧Tryz.prog.cellsOf 175 = 1∧Uu Tryz.prog 175 = 1∧Xe Tryz.prog 175 = false∧Yo Tryz.prog 175 = some [.slice none 0 0]∧Tryz.prog.bytesOf 175 = 24:=by and_intros <;> kernel_rfl
@[simp] theorem y_178 : tk Tryz.prog 178 = .struct [(0,1,false),(1,1,false),(2,1,false),(3,1,false),(4,4,true)]∧Tryz.prog.cellsOf 178 = 8∧Uu Tryz.prog 178 = 8∧Xe Tryz.prog 178 = true∧Yo Tryz.prog 178 = some [.int .i64 0,.int .i64 0,.float .f32 0,.float .f32 0,.float .f32 0,.float .f32 0,.float .f32 0,.float .f32 0]∧Tryz.prog.bytesOf 178 = 40:=by and_intros <;> kernel_rfl
@[simp] theorem y_180 : tk Tryz.prog 180 = .struct [(0,1,false),(1,1,false),(2,1,false),(3,1,false)]∧Tryz.prog.cellsOf 180 = 4∧Uu Tryz.prog 180 = 4∧Xe Tryz.prog 180 = true∧Yo Tryz.prog 180 = some [.int .i64 0,.int .i64 0,.float .f32 0,.float .f32 0]∧Tryz.prog.bytesOf 180 = 24:=by and_intros <;> kernel_rfl
@[simp] theorem y_182 : tk Tryz.prog 182 = .int .u32∧Tryz.prog.cellsOf 182 = 1∧Uu Tryz.prog 182 = 1∧Xe Tryz.prog 182 = false∧Yo Tryz.prog 182 = some [.int .u32 0]∧Tryz.prog.bytesOf 182 = 4:=by and_intros <;> kernel_rfl
@[simp] theorem y_188 : tk Tryz.prog 188 = .int .i16∧Tryz.prog.cellsOf 188 = 1∧Uu Tryz.prog 188 = 1∧Xe Tryz.prog 188 = false∧Yo Tryz.prog 188 = some [.int .i16 0]∧Tryz.prog.bytesOf 188 = 2:=by and_intros <;> kernel_rfl
@[simp] theorem y_190 : tk Tryz.prog 190 = .struct [(0,1,false),(1,1,false),(2,1,false)]∧Tryz.prog.cellsOf 190 = 3∧Uu Tryz.prog 190 = 3∧Xe Tryz.prog 190 = true∧Yo Tryz.prog 190 = some [.int .i8 0,.int .i16 0,.float .f32 0]∧Tryz.prog.bytesOf 190 = 8:=by and_intros <;> kernel_rfl
@[simp] theorem y_199 : tk Tryz.prog 199 = .ptr 150∧Tryz.prog.cellsOf 199 = 1∧Uu Tryz.prog 199 = 1∧Xe Tryz.prog 199 = false∧Yo Tryz.prog 199 = some [.pointer none]∧Tryz.prog.bytesOf 199 = 8:=by and_intros <;> kernel_rfl
@[simp] theorem y_203 : tk Tryz.prog 203 = .ptr 205∧Tryz.prog.cellsOf 203 = 1∧Uu Tryz.prog 203 = 1∧Xe Tryz.prog 203 = false∧Yo Tryz.prog 203 = some [.pointer none]∧Tryz.prog.bytesOf 203 = 8:=by and_intros <;> kernel_rfl
@[simp] theorem y_205 : tk Tryz.prog 205 = .struct [(0,1,false),(1,1,false),(2,1,false),(3,1,false)]∧Tryz.prog.cellsOf 205 = 4∧Uu Tryz.prog 205 = 4∧Xe Tryz.prog 205 = true∧Yo Tryz.prog 205 = some [.slice none 0 0,.slice none 0 0,.slice none 0 0,.bool false]∧Tryz.prog.bytesOf 205 = 80:=by and_intros <;> kernel_rfl
@[simp] theorem y_215 : tk Tryz.prog 215 = .struct [(0,6,true),(6,6,true),(12,6,true)]∧Tryz.prog.cellsOf 215 = 18∧Uu Tryz.prog 215 = 18∧Xe Tryz.prog 215 = true∧Yo Tryz.prog 215 = some [.float .f32 0,.float .f32 0,.float .f32 0,.float .f32 0,.float .f32 0,.float .f32 0,.float .f32 0,.float .f32 0,.float .f32 0,.float .f32 0,.float .f32 0,.float .f32 0,.float .f32 0,.float .f32 0,.float .f32 0,.float .f32 0,.float .f32 0,.float .f32 0]∧Tryz.prog.bytesOf 215 = 72:=by and_intros <;> kernel_rfl
@[simp] theorem y_221 : tk Tryz.prog 221 = .int .u64∧Tryz.prog.cellsOf 221 = 1∧Uu Tryz.prog 221 = 1∧Xe Tryz.prog 221 = false∧Yo Tryz.prog 221 = some [.int .u64 0]∧Tryz.prog.bytesOf 221 = 8:=by and_intros <;> kernel_rfl
@[simp] theorem y_236 : tk Tryz.prog 236 = .iface∧Tryz.prog.cellsOf 236 = 1∧Uu Tryz.prog 236 = 1∧Xe Tryz.prog 236 = false∧Yo Tryz.prog 236 = some [.nilIface]∧ifaceB Tryz.prog 236 = true∧Tryz.prog.bytesOf 236 = 16:=by and_intros <;> kernel_rfl
theorem Wc : Tryz.prog.follows .mixedOrders = true:=by kernel_rfl
structure T189 where
 kind_ : Int
 at_ : Int
 num_ : F32
structure T204 where
 parts_ : List ByteArray
 names_ : List ByteArray
 code_ : List T189
 bad_ : Bool
structure T79 where
 names_ : List ByteArray
 code_ : List T189
@[simp] def Yu (x : ByteArray) : List V:=[.str x]
instance : Pln Yu:=⟨fun x => by simp⟩
@[simp] theorem cs__len {x : ByteArray} : (Yu x).length = 1:=rfl
@[simp] theorem cs__set {xs : List ByteArray} {i : Nat} {a : ByteArray} : (rows Yu xs).set i [.str a] = rows Yu (xs.set i a):=Xn (c:=Yu) (x:=a)
@[simp] theorem cs__snoc {xs : List ByteArray} {a : ByteArray} : rows Yu xs ++ [[.str a]] = rows Yu (xs ++ [a]):=Xc (c:=Yu) (x:=a)
@[simp] theorem cs__rep {n : Nat} {a : ByteArray} : List.replicate n [.str a] = rows Yu (List.replicate n a):=Xo (c:=Yu) (x:=a)
theorem cs__inj (x y : ByteArray) (h : Yu x = Yu y) : x = y:=by
 simp only [Yu,List.cons.injEq,V.i.injEq,V.b.injEq,V.f.injEq,V.str.injEq,V.sl.injEq,V.own.injEq,true_and,and_true] at h
 simp_all
@[simp] def Yi (x : T189) : List V:=[.i .i8 x.kind_,.i .i16 x.at_,.f .f32 x.num_]
instance : Pln Yi:=⟨fun x => by simp⟩
@[simp] theorem cT189_len {x : T189} : (Yi x).length = 3:=rfl
@[simp] theorem cT189_set {xs : List T189} {i : Nat} {a0 : Int} {a1 : Int} {a2 : F32} : (rows Yi xs).set i [.i .i8 a0,.i .i16 a1,.f .f32 a2] = rows Yi (xs.set i (⟨a0,a1,a2⟩ : T189)):=Xn (c:=Yi) (x:=(⟨a0,a1,a2⟩ : T189))
@[simp] theorem cT189_snoc {xs : List T189} {a0 : Int} {a1 : Int} {a2 : F32} : rows Yi xs ++ [[.i .i8 a0,.i .i16 a1,.f .f32 a2]] = rows Yi (xs ++ [(⟨a0,a1,a2⟩ : T189)]):=Xc (c:=Yi) (x:=(⟨a0,a1,a2⟩ : T189))
@[simp] theorem cT189_rep {n : Nat} {a0 : Int} {a1 : Int} {a2 : F32} : List.replicate n [.i .i8 a0,.i .i16 a1,.f .f32 a2] = rows Yi (List.replicate n (⟨a0,a1,a2⟩ : T189)):=Xo (c:=Yi) (x:=(⟨a0,a1,a2⟩ : T189))
theorem cT189_inj (x y : T189) (h : Yi x = Yi y) : x = y:=by
 obtain ⟨i1,i2,i3⟩:=x
 obtain ⟨i4,i5,i6⟩:=y
 simp only [Yi,List.cons.injEq,V.i.injEq,V.b.injEq,V.f.injEq,V.str.injEq,V.sl.injEq,V.own.injEq,true_and,and_true] at h
 simp_all
def Yc (pc : List T189) (r_ : T204) : VM:=[some (2,[[.nil,.nil]]),some (2,[[.ref 2 0 r_.names_.length,.ref 3 0 pc.length]]),some (1,rows Yu r_.names_),some (3,rows Yi pc),some (4,[[.sl 1 (rows Yu r_.parts_),.ref 2 0 r_.names_.length,.ref 5 0 r_.code_.length,.b r_.bad_]]),some (3,rows Yi r_.code_)]
structure T139 where
 line_ : ByteArray
 at_ : Int
 names_ : List ByteArray
 code_ : List T189
 bad_ : Bool
def Zr (pc : List T189) (r_ : T139) : VM:=[some (2,[[.nil,.nil]]),some (2,[[.ref 2 0 r_.names_.length,.ref 3 0 pc.length]]),some (1,rows Yu r_.names_),some (3,rows Yi pc),some (5,[[.str r_.line_,.i .i64 r_.at_,.ref 2 0 r_.names_.length,.ref 5 0 r_.code_.length,.b r_.bad_]]),some (3,rows Yi r_.code_)]
@[simp] def Zt (x : F32) : List V:=[.f .f32 x]
instance : Pln Zt:=⟨fun x => by simp⟩
@[simp] theorem cf_f32_len {x : F32} : (Zt x).length = 1:=rfl
@[simp] theorem cf_f32_set {xs : List F32} {i : Nat} {a : F32} : (rows Zt xs).set i [.f .f32 a] = rows Zt (xs.set i a):=Xn (c:=Zt) (x:=a)
@[simp] theorem cf_f32_snoc {xs : List F32} {a : F32} : rows Zt xs ++ [[.f .f32 a]] = rows Zt (xs ++ [a]):=Xc (c:=Zt) (x:=a)
@[simp] theorem cf_f32_rep {n : Nat} {a : F32} : List.replicate n [.f .f32 a] = rows Zt (List.replicate n a):=Xo (c:=Zt) (x:=a)
theorem cf_f32_inj (x y : F32) (h : Zt x = Zt y) : x = y:=by
 simp only [Zt,List.cons.injEq,V.i.injEq,V.b.injEq,V.f.injEq,V.str.injEq,V.sl.injEq,V.own.injEq,true_and,and_true] at h
 simp_all
structure T130 where
 a0_ : F32
 a1_ : F32
 a2_ : F32
 a3_ : F32
structure T131 where
 a_ : Int
 b_ : Int
 lead_ : F32
 store_ : F32
 heat_ : T130
@[simp] def Yv (x : T131) : List V:=[.i .i64 x.a_,.i .i64 x.b_,.f .f32 x.lead_,.f .f32 x.store_,.f .f32 x.heat_.a0_,.f .f32 x.heat_.a1_,.f .f32 x.heat_.a2_,.f .f32 x.heat_.a3_]
instance : Pln Yv:=⟨fun x => by simp⟩
@[simp] theorem cT131_len {x : T131} : (Yv x).length = 8:=rfl
@[simp] theorem cT131_set {xs : List T131} {i : Nat} {a0 : Int} {a1 : Int} {a2 : F32} {a3 : F32} {a4 : F32} {a5 : F32} {a6 : F32} {a7 : F32} : (rows Yv xs).set i [.i .i64 a0,.i .i64 a1,.f .f32 a2,.f .f32 a3,.f .f32 a4,.f .f32 a5,.f .f32 a6,.f .f32 a7] = rows Yv (xs.set i (⟨a0,a1,a2,a3,(⟨a4,a5,a6,a7⟩ : T130)⟩ : T131)):=Xn (c:=Yv) (x:=(⟨a0,a1,a2,a3,(⟨a4,a5,a6,a7⟩ : T130)⟩ : T131))
@[simp] theorem cT131_snoc {xs : List T131} {a0 : Int} {a1 : Int} {a2 : F32} {a3 : F32} {a4 : F32} {a5 : F32} {a6 : F32} {a7 : F32} : rows Yv xs ++ [[.i .i64 a0,.i .i64 a1,.f .f32 a2,.f .f32 a3,.f .f32 a4,.f .f32 a5,.f .f32 a6,.f .f32 a7]] = rows Yv (xs ++ [(⟨a0,a1,a2,a3,(⟨a4,a5,a6,a7⟩ : T130)⟩ : T131)]):=Xc (c:=Yv) (x:=(⟨a0,a1,a2,a3,(⟨a4,a5,a6,a7⟩ : T130)⟩ : T131))
@[simp] theorem cT131_rep {n : Nat} {a0 : Int} {a1 : Int} {a2 : F32} {a3 : F32} {a4 : F32} {a5 : F32} {a6 : F32} {a7 : F32} : List.replicate n [.i .i64 a0,.i .i64 a1,.f .f32 a2,.f .f32 a3,.f .f32 a4,.f .f32 a5,.f .f32 a6,.f .f32 a7] = rows Yv (List.replicate n (⟨a0,a1,a2,a3,(⟨a4,a5,a6,a7⟩ : T130)⟩ : T131)):=Xo (c:=Yv) (x:=(⟨a0,a1,a2,a3,(⟨a4,a5,a6,a7⟩ : T130)⟩ : T131))
theorem cT131_inj (x y : T131) (h : Yv x = Yv y) : x = y:=by
 obtain ⟨i11,i12,i13,i14,⟨i15,i16,i17,i18⟩⟩:=x
 obtain ⟨i19,i20,i21,i22,⟨i23,i24,i25,i26⟩⟩:=y
 simp only [Yv,List.cons.injEq,V.i.injEq,V.b.injEq,V.f.injEq,V.str.injEq,V.sl.injEq,V.own.injEq,true_and,and_true] at h
 simp_all
structure T134 where
 a_ : Int
 b_ : Int
 lead_ : F32
 sun_ : F32
@[simp] def Yw (x : T134) : List V:=[.i .i64 x.a_,.i .i64 x.b_,.f .f32 x.lead_,.f .f32 x.sun_]
instance : Pln Yw:=⟨fun x => by simp⟩
@[simp] theorem cT134_len {x : T134} : (Yw x).length = 4:=rfl
@[simp] theorem cT134_set {xs : List T134} {i : Nat} {a0 : Int} {a1 : Int} {a2 : F32} {a3 : F32} : (rows Yw xs).set i [.i .i64 a0,.i .i64 a1,.f .f32 a2,.f .f32 a3] = rows Yw (xs.set i (⟨a0,a1,a2,a3⟩ : T134)):=Xn (c:=Yw) (x:=(⟨a0,a1,a2,a3⟩ : T134))
@[simp] theorem cT134_snoc {xs : List T134} {a0 : Int} {a1 : Int} {a2 : F32} {a3 : F32} : rows Yw xs ++ [[.i .i64 a0,.i .i64 a1,.f .f32 a2,.f .f32 a3]] = rows Yw (xs ++ [(⟨a0,a1,a2,a3⟩ : T134)]):=Xc (c:=Yw) (x:=(⟨a0,a1,a2,a3⟩ : T134))
@[simp] theorem cT134_rep {n : Nat} {a0 : Int} {a1 : Int} {a2 : F32} {a3 : F32} : List.replicate n [.i .i64 a0,.i .i64 a1,.f .f32 a2,.f .f32 a3] = rows Yw (List.replicate n (⟨a0,a1,a2,a3⟩ : T134)):=Xo (c:=Yw) (x:=(⟨a0,a1,a2,a3⟩ : T134))
theorem cT134_inj (x y : T134) (h : Yw x = Yw y) : x = y:=by
 obtain ⟨i31,i32,i33,i34⟩:=x
 obtain ⟨i35,i36,i37,i38⟩:=y
 simp only [Yw,List.cons.injEq,V.i.injEq,V.b.injEq,V.f.injEq,V.str.injEq,V.sl.injEq,V.own.injEq,true_and,and_true] at h
 simp_all
structure T25 where
 heat_ : List F32
 store_ : List F32
 walls_ : List T131
 panes_ : List T134
def Wb (x : T25) : List V:=[.sl 1 (rows Zt x.heat_),.sl 1 (rows Zt x.store_),.sl 8 (rows Yv x.walls_),.sl 4 (rows Yw x.panes_)]
section
variable {x : T25}
@[simp] theorem pT25_len : (Wb x).length = 4:=rfl
@[simp] theorem pT25_0 : (Wb x)[0]? = some (.sl 1 (rows Zt x.heat_)):=rfl
@[simp] theorem pT25_g0 (h : 0 < (Wb x).length) : (Wb x)[0] = .sl 1 (rows Zt x.heat_):=rfl
@[simp] theorem pT25_1 : (Wb x)[1]? = some (.sl 1 (rows Zt x.store_)):=rfl
@[simp] theorem pT25_g1 (h : 1 < (Wb x).length) : (Wb x)[1] = .sl 1 (rows Zt x.store_):=rfl
@[simp] theorem pT25_2 : (Wb x)[2]? = some (.sl 8 (rows Yv x.walls_)):=rfl
@[simp] theorem pT25_g2 (h : 2 < (Wb x).length) : (Wb x)[2] = .sl 8 (rows Yv x.walls_):=rfl
@[simp] theorem pT25_3 : (Wb x)[3]? = some (.sl 4 (rows Yw x.panes_)):=rfl
@[simp] theorem pT25_g3 (h : 3 < (Wb x).length) : (Wb x)[3] = .sl 4 (rows Yw x.panes_):=rfl
@[simp] theorem pT25_un1 : (Wb x).map un1 = Wb x:=rfl
@[simp] theorem pT25_snap : Uv (Wb x) = true:=by simp [Wb]
@[simp] theorem pT25_cell : (Wb x).all Wn = true:=by simp [Wb]
@[simp high] theorem pT25_vc : Un (.agg (Wb x)) = some (Wb x):=by simp [Wb]
@[simp] theorem pT25_noB {b : Nat} : (Wb x).all (Wo b) = true:=by simp [Wb]
@[simp] theorem pT25_bnd {k : Nat} : (Wb x).all (Zs k) = true:=by simp [Wb,Zs]
@[simp] theorem pT25_re {m : VM} : Ko m (Wb x) = some (Wb x):=by simp [Wb]
end
@[simp] def cT25 (x : T25) : List V:=[.sl 1 (rows Zt x.heat_),.sl 1 (rows Zt x.store_),.sl 8 (rows Yv x.walls_),.sl 4 (rows Yw x.panes_)]
instance : Snp cT25:=⟨fun x => by simp,fun x => by simp⟩
@[simp] theorem cT25_len {x : T25} : (cT25 x).length = 4:=rfl
@[simp] theorem cT25_set {xs : List T25} {i : Nat} {a0 : List F32} {a1 : List F32} {a2 : List T131} {a3 : List T134} : (rows cT25 xs).set i [.sl 1 (rows Zt a0),.sl 1 (rows Zt a1),.sl 8 (rows Yv a2),.sl 4 (rows Yw a3)] = rows cT25 (xs.set i (⟨a0,a1,a2,a3⟩ : T25)):=Xn (c:=cT25) (x:=(⟨a0,a1,a2,a3⟩ : T25))
@[simp] theorem cT25_snoc {xs : List T25} {a0 : List F32} {a1 : List F32} {a2 : List T131} {a3 : List T134} : rows cT25 xs ++ [[.sl 1 (rows Zt a0),.sl 1 (rows Zt a1),.sl 8 (rows Yv a2),.sl 4 (rows Yw a3)]] = rows cT25 (xs ++ [(⟨a0,a1,a2,a3⟩ : T25)]):=Xc (c:=cT25) (x:=(⟨a0,a1,a2,a3⟩ : T25))
@[simp] theorem cT25_rep {n : Nat} {a0 : List F32} {a1 : List F32} {a2 : List T131} {a3 : List T134} : List.replicate n [.sl 1 (rows Zt a0),.sl 1 (rows Zt a1),.sl 8 (rows Yv a2),.sl 4 (rows Yw a3)] = rows cT25 (List.replicate n (⟨a0,a1,a2,a3⟩ : T25)):=Xo (c:=cT25) (x:=(⟨a0,a1,a2,a3⟩ : T25))
theorem cT25_inj (x y : T25) (h : cT25 x = cT25 y) : x = y:=by
 obtain ⟨i43,i44,i45,i46⟩:=x
 obtain ⟨i47,i48,i49,i50⟩:=y
 simp only [cT25,List.cons.injEq,V.i.injEq,V.b.injEq,V.f.injEq,V.str.injEq,V.sl.injEq,V.own.injEq,true_and,and_true] at h
 simp_all [ri cT131_inj,ri cT134_inj,ri cf_f32_inj]
structure T32 where
 burnt_ : F32
 steam_ : F32
 up_ : F32
 lost_ : F32
 smoky_ : Int
@[simp] def Xw (x : T32) : List V:=[.f .f32 x.burnt_,.f .f32 x.steam_,.f .f32 x.up_,.f .f32 x.lost_,.i .i64 x.smoky_]
instance : Pln Xw:=⟨fun x => by simp⟩
@[simp] theorem cT32_len {x : T32} : (Xw x).length = 5:=rfl
@[simp] theorem cT32_set {xs : List T32} {i : Nat} {a0 : F32} {a1 : F32} {a2 : F32} {a3 : F32} {a4 : Int} : (rows Xw xs).set i [.f .f32 a0,.f .f32 a1,.f .f32 a2,.f .f32 a3,.i .i64 a4] = rows Xw (xs.set i (⟨a0,a1,a2,a3,a4⟩ : T32)):=Xn (c:=Xw) (x:=(⟨a0,a1,a2,a3,a4⟩ : T32))
@[simp] theorem cT32_snoc {xs : List T32} {a0 : F32} {a1 : F32} {a2 : F32} {a3 : F32} {a4 : Int} : rows Xw xs ++ [[.f .f32 a0,.f .f32 a1,.f .f32 a2,.f .f32 a3,.i .i64 a4]] = rows Xw (xs ++ [(⟨a0,a1,a2,a3,a4⟩ : T32)]):=Xc (c:=Xw) (x:=(⟨a0,a1,a2,a3,a4⟩ : T32))
@[simp] theorem cT32_rep {n : Nat} {a0 : F32} {a1 : F32} {a2 : F32} {a3 : F32} {a4 : Int} : List.replicate n [.f .f32 a0,.f .f32 a1,.f .f32 a2,.f .f32 a3,.i .i64 a4] = rows Xw (List.replicate n (⟨a0,a1,a2,a3,a4⟩ : T32)):=Xo (c:=Xw) (x:=(⟨a0,a1,a2,a3,a4⟩ : T32))
theorem cT32_inj (x y : T32) (h : Xw x = Xw y) : x = y:=by
 obtain ⟨i61,i62,i63,i64,i65⟩:=x
 obtain ⟨i66,i67,i68,i69,i70⟩:=y
 simp only [Xw,List.cons.injEq,V.i.injEq,V.b.injEq,V.f.injEq,V.str.injEq,V.sl.injEq,V.own.injEq,true_and,and_true] at h
 simp_all
structure T148 where
 a0_ : F32
 a1_ : F32
 a2_ : F32
 a3_ : F32
 a4_ : F32
 a5_ : F32
structure T149 where
 wet_ : T148
 heat_ : T148
 fuel_ : T148
@[simp] def Yk (x : T149) : List V:=[.f .f32 x.wet_.a0_,.f .f32 x.wet_.a1_,.f .f32 x.wet_.a2_,.f .f32 x.wet_.a3_,.f .f32 x.wet_.a4_,.f .f32 x.wet_.a5_,.f .f32 x.heat_.a0_,.f .f32 x.heat_.a1_,.f .f32 x.heat_.a2_,.f .f32 x.heat_.a3_,.f .f32 x.heat_.a4_,.f .f32 x.heat_.a5_,.f .f32 x.fuel_.a0_,.f .f32 x.fuel_.a1_,.f .f32 x.fuel_.a2_,.f .f32 x.fuel_.a3_,.f .f32 x.fuel_.a4_,.f .f32 x.fuel_.a5_]
instance : Pln Yk:=⟨fun x => by simp⟩
@[simp] theorem cT149_len {x : T149} : (Yk x).length = 18:=rfl
@[simp] theorem cT149_set {xs : List T149} {i : Nat} {a0 : F32} {a1 : F32} {a2 : F32} {a3 : F32} {a4 : F32} {a5 : F32} {a6 : F32} {a7 : F32} {a8 : F32} {a9 : F32} {a10 : F32} {a11 : F32} {a12 : F32} {a13 : F32} {a14 : F32} {a15 : F32} {a16 : F32} {a17 : F32} : (rows Yk xs).set i [.f .f32 a0,.f .f32 a1,.f .f32 a2,.f .f32 a3,.f .f32 a4,.f .f32 a5,.f .f32 a6,.f .f32 a7,.f .f32 a8,.f .f32 a9,.f .f32 a10,.f .f32 a11,.f .f32 a12,.f .f32 a13,.f .f32 a14,.f .f32 a15,.f .f32 a16,.f .f32 a17] = rows Yk (xs.set i (⟨(⟨a0,a1,a2,a3,a4,a5⟩ : T148),(⟨a6,a7,a8,a9,a10,a11⟩ : T148),(⟨a12,a13,a14,a15,a16,a17⟩ : T148)⟩ : T149)):=Xn (c:=Yk) (x:=(⟨(⟨a0,a1,a2,a3,a4,a5⟩ : T148),(⟨a6,a7,a8,a9,a10,a11⟩ : T148),(⟨a12,a13,a14,a15,a16,a17⟩ : T148)⟩ : T149))
@[simp] theorem cT149_snoc {xs : List T149} {a0 : F32} {a1 : F32} {a2 : F32} {a3 : F32} {a4 : F32} {a5 : F32} {a6 : F32} {a7 : F32} {a8 : F32} {a9 : F32} {a10 : F32} {a11 : F32} {a12 : F32} {a13 : F32} {a14 : F32} {a15 : F32} {a16 : F32} {a17 : F32} : rows Yk xs ++ [[.f .f32 a0,.f .f32 a1,.f .f32 a2,.f .f32 a3,.f .f32 a4,.f .f32 a5,.f .f32 a6,.f .f32 a7,.f .f32 a8,.f .f32 a9,.f .f32 a10,.f .f32 a11,.f .f32 a12,.f .f32 a13,.f .f32 a14,.f .f32 a15,.f .f32 a16,.f .f32 a17]] = rows Yk (xs ++ [(⟨(⟨a0,a1,a2,a3,a4,a5⟩ : T148),(⟨a6,a7,a8,a9,a10,a11⟩ : T148),(⟨a12,a13,a14,a15,a16,a17⟩ : T148)⟩ : T149)]):=Xc (c:=Yk) (x:=(⟨(⟨a0,a1,a2,a3,a4,a5⟩ : T148),(⟨a6,a7,a8,a9,a10,a11⟩ : T148),(⟨a12,a13,a14,a15,a16,a17⟩ : T148)⟩ : T149))
@[simp] theorem cT149_rep {n : Nat} {a0 : F32} {a1 : F32} {a2 : F32} {a3 : F32} {a4 : F32} {a5 : F32} {a6 : F32} {a7 : F32} {a8 : F32} {a9 : F32} {a10 : F32} {a11 : F32} {a12 : F32} {a13 : F32} {a14 : F32} {a15 : F32} {a16 : F32} {a17 : F32} : List.replicate n [.f .f32 a0,.f .f32 a1,.f .f32 a2,.f .f32 a3,.f .f32 a4,.f .f32 a5,.f .f32 a6,.f .f32 a7,.f .f32 a8,.f .f32 a9,.f .f32 a10,.f .f32 a11,.f .f32 a12,.f .f32 a13,.f .f32 a14,.f .f32 a15,.f .f32 a16,.f .f32 a17] = rows Yk (List.replicate n (⟨(⟨a0,a1,a2,a3,a4,a5⟩ : T148),(⟨a6,a7,a8,a9,a10,a11⟩ : T148),(⟨a12,a13,a14,a15,a16,a17⟩ : T148)⟩ : T149)):=Xo (c:=Yk) (x:=(⟨(⟨a0,a1,a2,a3,a4,a5⟩ : T148),(⟨a6,a7,a8,a9,a10,a11⟩ : T148),(⟨a12,a13,a14,a15,a16,a17⟩ : T148)⟩ : T149))
theorem Gi (x y : T149) (h : Yk x = Yk y) : x = y:=by
 obtain ⟨⟨i75,i76,i77,i78,i79,i80⟩,⟨i81,i82,i83,i84,i85,i86⟩,⟨i87,i88,i89,i90,i91,i92⟩⟩:=x
 obtain ⟨⟨i93,i94,i95,i96,i97,i98⟩,⟨i99,i100,i101,i102,i103,i104⟩,⟨i105,i106,i107,i108,i109,i110⟩⟩:=y
 simp only [Yk,List.cons.injEq,V.i.injEq,V.b.injEq,V.f.injEq,V.str.injEq,V.sl.injEq,V.own.injEq,true_and,and_true] at h
 simp_all
structure T85 where
 logs_ : List T149
 box_ : F32
 damper_ : F32
 state_ : Int
 ash_ : Int
 dust_ : F32
def Xx (x : T85) : List V:=[.sl 18 (rows Yk x.logs_),.f .f32 x.box_,.f .f32 x.damper_,.i .i8 x.state_,.i .i64 x.ash_,.f .f32 x.dust_]
section
variable {x : T85}
@[simp] theorem pT85_len : (Xx x).length = 6:=rfl
@[simp] theorem pT85_0 : (Xx x)[0]? = some (.sl 18 (rows Yk x.logs_)):=rfl
@[simp] theorem pT85_g0 (h : 0 < (Xx x).length) : (Xx x)[0] = .sl 18 (rows Yk x.logs_):=rfl
@[simp] theorem pT85_1 : (Xx x)[1]? = some (.f .f32 x.box_):=rfl
@[simp] theorem pT85_g1 (h : 1 < (Xx x).length) : (Xx x)[1] = .f .f32 x.box_:=rfl
@[simp] theorem pT85_2 : (Xx x)[2]? = some (.f .f32 x.damper_):=rfl
@[simp] theorem pT85_g2 (h : 2 < (Xx x).length) : (Xx x)[2] = .f .f32 x.damper_:=rfl
@[simp] theorem pT85_3 : (Xx x)[3]? = some (.i .i8 x.state_):=rfl
@[simp] theorem pT85_g3 (h : 3 < (Xx x).length) : (Xx x)[3] = .i .i8 x.state_:=rfl
@[simp] theorem pT85_4 : (Xx x)[4]? = some (.i .i64 x.ash_):=rfl
@[simp] theorem pT85_g4 (h : 4 < (Xx x).length) : (Xx x)[4] = .i .i64 x.ash_:=rfl
@[simp] theorem pT85_5 : (Xx x)[5]? = some (.f .f32 x.dust_):=rfl
@[simp] theorem pT85_g5 (h : 5 < (Xx x).length) : (Xx x)[5] = .f .f32 x.dust_:=rfl
@[simp] theorem pT85_un1 : (Xx x).map un1 = Xx x:=rfl
@[simp] theorem pT85_snap : Uv (Xx x) = true:=by simp [Xx]
@[simp] theorem pT85_cell : (Xx x).all Wn = true:=by simp [Xx]
@[simp high] theorem pT85_vc : Un (.agg (Xx x)) = some (Xx x):=by simp [Xx]
@[simp] theorem pT85_noB {b : Nat} : (Xx x).all (Wo b) = true:=by simp [Xx]
@[simp] theorem pT85_bnd {k : Nat} : (Xx x).all (Zs k) = true:=by simp [Xx,Zs]
@[simp] theorem pT85_re {m : VM} : Ko m (Xx x) = some (Xx x):=by simp [Xx]
end
@[simp] def cT85 (x : T85) : List V:=[.sl 18 (rows Yk x.logs_),.f .f32 x.box_,.f .f32 x.damper_,.i .i8 x.state_,.i .i64 x.ash_,.f .f32 x.dust_]
instance : Snp cT85:=⟨fun x => by simp,fun x => by simp⟩
@[simp] theorem cT85_len {x : T85} : (cT85 x).length = 6:=rfl
@[simp] theorem cT85_set {xs : List T85} {i : Nat} {a0 : List T149} {a1 : F32} {a2 : F32} {a3 : Int} {a4 : Int} {a5 : F32} : (rows cT85 xs).set i [.sl 18 (rows Yk a0),.f .f32 a1,.f .f32 a2,.i .i8 a3,.i .i64 a4,.f .f32 a5] = rows cT85 (xs.set i (⟨a0,a1,a2,a3,a4,a5⟩ : T85)):=Xn (c:=cT85) (x:=(⟨a0,a1,a2,a3,a4,a5⟩ : T85))
@[simp] theorem cT85_snoc {xs : List T85} {a0 : List T149} {a1 : F32} {a2 : F32} {a3 : Int} {a4 : Int} {a5 : F32} : rows cT85 xs ++ [[.sl 18 (rows Yk a0),.f .f32 a1,.f .f32 a2,.i .i8 a3,.i .i64 a4,.f .f32 a5]] = rows cT85 (xs ++ [(⟨a0,a1,a2,a3,a4,a5⟩ : T85)]):=Xc (c:=cT85) (x:=(⟨a0,a1,a2,a3,a4,a5⟩ : T85))
@[simp] theorem cT85_rep {n : Nat} {a0 : List T149} {a1 : F32} {a2 : F32} {a3 : Int} {a4 : Int} {a5 : F32} : List.replicate n [.sl 18 (rows Yk a0),.f .f32 a1,.f .f32 a2,.i .i8 a3,.i .i64 a4,.f .f32 a5] = rows cT85 (List.replicate n (⟨a0,a1,a2,a3,a4,a5⟩ : T85)):=Xo (c:=cT85) (x:=(⟨a0,a1,a2,a3,a4,a5⟩ : T85))
theorem cT85_inj (x y : T85) (h : cT85 x = cT85 y) : x = y:=by
 obtain ⟨i115,i116,i117,i118,i119,i120⟩:=x
 obtain ⟨i121,i122,i123,i124,i125,i126⟩:=y
 simp only [cT85,List.cons.injEq,V.i.injEq,V.b.injEq,V.f.injEq,V.str.injEq,V.sl.injEq,V.own.injEq,true_and,and_true] at h
 simp_all [ri Gi]
structure T87 where
 room_ : Int
 flue_ : Int
 brain_ : Int
 stove_ : T85
def Wk (x : T87) : List V:=[.i .i64 x.room_,.i .i64 x.flue_,.i .i64 x.brain_,.sl 18 (rows Yk x.stove_.logs_),.f .f32 x.stove_.box_,.f .f32 x.stove_.damper_,.i .i8 x.stove_.state_,.i .i64 x.stove_.ash_,.f .f32 x.stove_.dust_]
section
variable {x : T87}
@[simp] theorem pT87_len : (Wk x).length = 9:=rfl
@[simp] theorem pT87_0 : (Wk x)[0]? = some (.i .i64 x.room_):=rfl
@[simp] theorem pT87_g0 (h : 0 < (Wk x).length) : (Wk x)[0] = .i .i64 x.room_:=rfl
@[simp] theorem pT87_1 : (Wk x)[1]? = some (.i .i64 x.flue_):=rfl
@[simp] theorem pT87_g1 (h : 1 < (Wk x).length) : (Wk x)[1] = .i .i64 x.flue_:=rfl
@[simp] theorem pT87_2 : (Wk x)[2]? = some (.i .i64 x.brain_):=rfl
@[simp] theorem pT87_g2 (h : 2 < (Wk x).length) : (Wk x)[2] = .i .i64 x.brain_:=rfl
@[simp] theorem pT87_3 : (Wk x)[3]? = some (.sl 18 (rows Yk x.stove_.logs_)):=rfl
@[simp] theorem pT87_g3 (h : 3 < (Wk x).length) : (Wk x)[3] = .sl 18 (rows Yk x.stove_.logs_):=rfl
@[simp] theorem pT87_4 : (Wk x)[4]? = some (.f .f32 x.stove_.box_):=rfl
@[simp] theorem pT87_g4 (h : 4 < (Wk x).length) : (Wk x)[4] = .f .f32 x.stove_.box_:=rfl
@[simp] theorem pT87_5 : (Wk x)[5]? = some (.f .f32 x.stove_.damper_):=rfl
@[simp] theorem pT87_g5 (h : 5 < (Wk x).length) : (Wk x)[5] = .f .f32 x.stove_.damper_:=rfl
@[simp] theorem pT87_6 : (Wk x)[6]? = some (.i .i8 x.stove_.state_):=rfl
@[simp] theorem pT87_g6 (h : 6 < (Wk x).length) : (Wk x)[6] = .i .i8 x.stove_.state_:=rfl
@[simp] theorem pT87_7 : (Wk x)[7]? = some (.i .i64 x.stove_.ash_):=rfl
@[simp] theorem pT87_g7 (h : 7 < (Wk x).length) : (Wk x)[7] = .i .i64 x.stove_.ash_:=rfl
@[simp] theorem pT87_8 : (Wk x)[8]? = some (.f .f32 x.stove_.dust_):=rfl
@[simp] theorem pT87_g8 (h : 8 < (Wk x).length) : (Wk x)[8] = .f .f32 x.stove_.dust_:=rfl
@[simp] theorem pT87_d3 : (Wk x).drop 3 = [.sl 18 (rows Yk x.stove_.logs_),.f .f32 x.stove_.box_,.f .f32 x.stove_.damper_,.i .i8 x.stove_.state_,.i .i64 x.stove_.ash_,.f .f32 x.stove_.dust_]:=rfl
@[simp] theorem pT87_s3_6 : ((Wk x).drop 3).take 6 = [.sl 18 (rows Yk x.stove_.logs_),.f .f32 x.stove_.box_,.f .f32 x.stove_.damper_,.i .i8 x.stove_.state_,.i .i64 x.stove_.ash_,.f .f32 x.stove_.dust_]:=rfl
@[simp] theorem pT87_un1 : (Wk x).map un1 = Wk x:=rfl
@[simp] theorem pT87_snap : Uv (Wk x) = true:=by simp [Wk]
@[simp] theorem pT87_cell : (Wk x).all Wn = true:=by simp [Wk]
@[simp high] theorem pT87_vc : Un (.agg (Wk x)) = some (Wk x):=by simp [Wk]
@[simp] theorem pT87_noB {b : Nat} : (Wk x).all (Wo b) = true:=by simp [Wk]
@[simp] theorem pT87_bnd {k : Nat} : (Wk x).all (Zs k) = true:=by simp [Wk,Zs]
@[simp] theorem pT87_re {m : VM} : Ko m (Wk x) = some (Wk x):=by simp [Wk]
end
@[simp] def Wa (x : T87) : List V:=[.i .i64 x.room_,.i .i64 x.flue_,.i .i64 x.brain_,.sl 18 (rows Yk x.stove_.logs_),.f .f32 x.stove_.box_,.f .f32 x.stove_.damper_,.i .i8 x.stove_.state_,.i .i64 x.stove_.ash_,.f .f32 x.stove_.dust_]
instance : Snp Wa:=⟨fun x => by simp,fun x => by simp⟩
@[simp] theorem cT87_len {x : T87} : (Wa x).length = 9:=rfl
@[simp] theorem cT87_set {xs : List T87} {i : Nat} {a0 : Int} {a1 : Int} {a2 : Int} {a3 : List T149} {a4 : F32} {a5 : F32} {a6 : Int} {a7 : Int} {a8 : F32} : (rows Wa xs).set i [.i .i64 a0,.i .i64 a1,.i .i64 a2,.sl 18 (rows Yk a3),.f .f32 a4,.f .f32 a5,.i .i8 a6,.i .i64 a7,.f .f32 a8] = rows Wa (xs.set i (⟨a0,a1,a2,(⟨a3,a4,a5,a6,a7,a8⟩ : T85)⟩ : T87)):=Xn (c:=Wa) (x:=(⟨a0,a1,a2,(⟨a3,a4,a5,a6,a7,a8⟩ : T85)⟩ : T87))
@[simp] theorem cT87_snoc {xs : List T87} {a0 : Int} {a1 : Int} {a2 : Int} {a3 : List T149} {a4 : F32} {a5 : F32} {a6 : Int} {a7 : Int} {a8 : F32} : rows Wa xs ++ [[.i .i64 a0,.i .i64 a1,.i .i64 a2,.sl 18 (rows Yk a3),.f .f32 a4,.f .f32 a5,.i .i8 a6,.i .i64 a7,.f .f32 a8]] = rows Wa (xs ++ [(⟨a0,a1,a2,(⟨a3,a4,a5,a6,a7,a8⟩ : T85)⟩ : T87)]):=Xc (c:=Wa) (x:=(⟨a0,a1,a2,(⟨a3,a4,a5,a6,a7,a8⟩ : T85)⟩ : T87))
@[simp] theorem cT87_rep {n : Nat} {a0 : Int} {a1 : Int} {a2 : Int} {a3 : List T149} {a4 : F32} {a5 : F32} {a6 : Int} {a7 : Int} {a8 : F32} : List.replicate n [.i .i64 a0,.i .i64 a1,.i .i64 a2,.sl 18 (rows Yk a3),.f .f32 a4,.f .f32 a5,.i .i8 a6,.i .i64 a7,.f .f32 a8] = rows Wa (List.replicate n (⟨a0,a1,a2,(⟨a3,a4,a5,a6,a7,a8⟩ : T85)⟩ : T87)):=Xo (c:=Wa) (x:=(⟨a0,a1,a2,(⟨a3,a4,a5,a6,a7,a8⟩ : T85)⟩ : T87))
theorem cT87_inj (x y : T87) (h : Wa x = Wa y) : x = y:=by
 obtain ⟨i141,i142,i143,⟨i144,i145,i146,i147,i148,i149⟩⟩:=x
 obtain ⟨i150,i151,i152,⟨i153,i154,i155,i156,i157,i158⟩⟩:=y
 simp only [Wa,List.cons.injEq,V.i.injEq,V.b.injEq,V.f.injEq,V.str.injEq,V.sl.injEq,V.own.injEq,true_and,and_true] at h
 simp_all [ri Gi]
structure T51 where
 outside_ : F32
 sun_ : F32
 wind_ : F32
@[simp] def Wq (x : T51) : List V:=[.f .f32 x.outside_,.f .f32 x.sun_,.f .f32 x.wind_]
instance : Pln Wq:=⟨fun x => by simp⟩
@[simp] theorem cT51_len {x : T51} : (Wq x).length = 3:=rfl
@[simp] theorem cT51_set {xs : List T51} {i : Nat} {a0 : F32} {a1 : F32} {a2 : F32} : (rows Wq xs).set i [.f .f32 a0,.f .f32 a1,.f .f32 a2] = rows Wq (xs.set i (⟨a0,a1,a2⟩ : T51)):=Xn (c:=Wq) (x:=(⟨a0,a1,a2⟩ : T51))
@[simp] theorem cT51_snoc {xs : List T51} {a0 : F32} {a1 : F32} {a2 : F32} : rows Wq xs ++ [[.f .f32 a0,.f .f32 a1,.f .f32 a2]] = rows Wq (xs ++ [(⟨a0,a1,a2⟩ : T51)]):=Xc (c:=Wq) (x:=(⟨a0,a1,a2⟩ : T51))
@[simp] theorem cT51_rep {n : Nat} {a0 : F32} {a1 : F32} {a2 : F32} : List.replicate n [.f .f32 a0,.f .f32 a1,.f .f32 a2] = rows Wq (List.replicate n (⟨a0,a1,a2⟩ : T51)):=Xo (c:=Wq) (x:=(⟨a0,a1,a2⟩ : T51))
theorem cT51_inj (x y : T51) (h : Wq x = Wq y) : x = y:=by
 obtain ⟨i187,i188,i189⟩:=x
 obtain ⟨i190,i191,i192⟩:=y
 simp only [Wq,List.cons.injEq,V.i.injEq,V.b.injEq,V.f.injEq,V.str.injEq,V.sl.injEq,V.own.injEq,true_and,and_true] at h
 simp_all
structure T34 where
 flat_ : T25
 chimney_ : List T32
 hearths_ : List T87
 sources_ : List ByteArray
 hours_ : List T51
 tick_ : Int
 sums_ : T32
def Yj (x : T34) : List V:=[.sl 1 (rows Zt x.flat_.heat_),.sl 1 (rows Zt x.flat_.store_),.sl 8 (rows Yv x.flat_.walls_),.sl 4 (rows Yw x.flat_.panes_),.sl 5 (rows Xw x.chimney_),.sl 9 (rows Wa x.hearths_),.sl 1 (rows Yu x.sources_),.sl 3 (rows Wq x.hours_),.i .i64 x.tick_,.f .f32 x.sums_.burnt_,.f .f32 x.sums_.steam_,.f .f32 x.sums_.up_,.f .f32 x.sums_.lost_,.i .i64 x.sums_.smoky_]
section
variable {x : T34}
@[simp] theorem pT34_len : (Yj x).length = 14:=rfl
@[simp] theorem pT34_0 : (Yj x)[0]? = some (.sl 1 (rows Zt x.flat_.heat_)):=rfl
@[simp] theorem pT34_g0 (h : 0 < (Yj x).length) : (Yj x)[0] = .sl 1 (rows Zt x.flat_.heat_):=rfl
@[simp] theorem pT34_1 : (Yj x)[1]? = some (.sl 1 (rows Zt x.flat_.store_)):=rfl
@[simp] theorem pT34_g1 (h : 1 < (Yj x).length) : (Yj x)[1] = .sl 1 (rows Zt x.flat_.store_):=rfl
@[simp] theorem pT34_2 : (Yj x)[2]? = some (.sl 8 (rows Yv x.flat_.walls_)):=rfl
@[simp] theorem pT34_g2 (h : 2 < (Yj x).length) : (Yj x)[2] = .sl 8 (rows Yv x.flat_.walls_):=rfl
@[simp] theorem pT34_3 : (Yj x)[3]? = some (.sl 4 (rows Yw x.flat_.panes_)):=rfl
@[simp] theorem pT34_g3 (h : 3 < (Yj x).length) : (Yj x)[3] = .sl 4 (rows Yw x.flat_.panes_):=rfl
@[simp] theorem pT34_4 : (Yj x)[4]? = some (.sl 5 (rows Xw x.chimney_)):=rfl
@[simp] theorem pT34_g4 (h : 4 < (Yj x).length) : (Yj x)[4] = .sl 5 (rows Xw x.chimney_):=rfl
@[simp] theorem pT34_5 : (Yj x)[5]? = some (.sl 9 (rows Wa x.hearths_)):=rfl
@[simp] theorem pT34_g5 (h : 5 < (Yj x).length) : (Yj x)[5] = .sl 9 (rows Wa x.hearths_):=rfl
@[simp] theorem pT34_6 : (Yj x)[6]? = some (.sl 1 (rows Yu x.sources_)):=rfl
@[simp] theorem pT34_g6 (h : 6 < (Yj x).length) : (Yj x)[6] = .sl 1 (rows Yu x.sources_):=rfl
@[simp] theorem pT34_7 : (Yj x)[7]? = some (.sl 3 (rows Wq x.hours_)):=rfl
@[simp] theorem pT34_g7 (h : 7 < (Yj x).length) : (Yj x)[7] = .sl 3 (rows Wq x.hours_):=rfl
@[simp] theorem pT34_8 : (Yj x)[8]? = some (.i .i64 x.tick_):=rfl
@[simp] theorem pT34_g8 (h : 8 < (Yj x).length) : (Yj x)[8] = .i .i64 x.tick_:=rfl
@[simp] theorem pT34_9 : (Yj x)[9]? = some (.f .f32 x.sums_.burnt_):=rfl
@[simp] theorem pT34_g9 (h : 9 < (Yj x).length) : (Yj x)[9] = .f .f32 x.sums_.burnt_:=rfl
@[simp] theorem pT34_10 : (Yj x)[10]? = some (.f .f32 x.sums_.steam_):=rfl
@[simp] theorem pT34_g10 (h : 10 < (Yj x).length) : (Yj x)[10] = .f .f32 x.sums_.steam_:=rfl
@[simp] theorem pT34_11 : (Yj x)[11]? = some (.f .f32 x.sums_.up_):=rfl
@[simp] theorem pT34_g11 (h : 11 < (Yj x).length) : (Yj x)[11] = .f .f32 x.sums_.up_:=rfl
@[simp] theorem pT34_12 : (Yj x)[12]? = some (.f .f32 x.sums_.lost_):=rfl
@[simp] theorem pT34_g12 (h : 12 < (Yj x).length) : (Yj x)[12] = .f .f32 x.sums_.lost_:=rfl
@[simp] theorem pT34_13 : (Yj x)[13]? = some (.i .i64 x.sums_.smoky_):=rfl
@[simp] theorem pT34_g13 (h : 13 < (Yj x).length) : (Yj x)[13] = .i .i64 x.sums_.smoky_:=rfl
@[simp] theorem pT34_s0_4 : (Yj x).take 4 = [.sl 1 (rows Zt x.flat_.heat_),.sl 1 (rows Zt x.flat_.store_),.sl 8 (rows Yv x.flat_.walls_),.sl 4 (rows Yw x.flat_.panes_)]:=rfl
@[simp] theorem pT34_d9 : (Yj x).drop 9 = [.f .f32 x.sums_.burnt_,.f .f32 x.sums_.steam_,.f .f32 x.sums_.up_,.f .f32 x.sums_.lost_,.i .i64 x.sums_.smoky_]:=rfl
@[simp] theorem pT34_s9_5 : ((Yj x).drop 9).take 5 = [.f .f32 x.sums_.burnt_,.f .f32 x.sums_.steam_,.f .f32 x.sums_.up_,.f .f32 x.sums_.lost_,.i .i64 x.sums_.smoky_]:=rfl
@[simp] theorem pT34_un1 : (Yj x).map un1 = Yj x:=rfl
@[simp] theorem pT34_snap : Uv (Yj x) = true:=by simp [Yj]
@[simp] theorem pT34_cell : (Yj x).all Wn = true:=by simp [Yj]
@[simp high] theorem pT34_vc : Un (.agg (Yj x)) = some (Yj x):=by simp [Yj]
@[simp] theorem pT34_noB {b : Nat} : (Yj x).all (Wo b) = true:=by simp [Yj]
@[simp] theorem pT34_bnd {k : Nat} : (Yj x).all (Zs k) = true:=by simp [Yj,Zs]
@[simp] theorem pT34_re {m : VM} : Ko m (Yj x) = some (Yj x):=by simp [Yj]
end
@[simp] def cT34 (x : T34) : List V:=[.sl 1 (rows Zt x.flat_.heat_),.sl 1 (rows Zt x.flat_.store_),.sl 8 (rows Yv x.flat_.walls_),.sl 4 (rows Yw x.flat_.panes_),.sl 5 (rows Xw x.chimney_),.sl 9 (rows Wa x.hearths_),.sl 1 (rows Yu x.sources_),.sl 3 (rows Wq x.hours_),.i .i64 x.tick_,.f .f32 x.sums_.burnt_,.f .f32 x.sums_.steam_,.f .f32 x.sums_.up_,.f .f32 x.sums_.lost_,.i .i64 x.sums_.smoky_]
instance : Snp cT34:=⟨fun x => by simp,fun x => by simp⟩
@[simp] theorem cT34_len {x : T34} : (cT34 x).length = 14:=rfl
@[simp] theorem cT34_set {xs : List T34} {i : Nat} {a0 : List F32} {a1 : List F32} {a2 : List T131} {a3 : List T134} {a4 : List T32} {a5 : List T87} {a6 : List ByteArray} {a7 : List T51} {a8 : Int} {a9 : F32} {a10 : F32} {a11 : F32} {a12 : F32} {a13 : Int} : (rows cT34 xs).set i [.sl 1 (rows Zt a0),.sl 1 (rows Zt a1),.sl 8 (rows Yv a2),.sl 4 (rows Yw a3),.sl 5 (rows Xw a4),.sl 9 (rows Wa a5),.sl 1 (rows Yu a6),.sl 3 (rows Wq a7),.i .i64 a8,.f .f32 a9,.f .f32 a10,.f .f32 a11,.f .f32 a12,.i .i64 a13] = rows cT34 (xs.set i (⟨(⟨a0,a1,a2,a3⟩ : T25),a4,a5,a6,a7,a8,(⟨a9,a10,a11,a12,a13⟩ : T32)⟩ : T34)):=Xn (c:=cT34) (x:=(⟨(⟨a0,a1,a2,a3⟩ : T25),a4,a5,a6,a7,a8,(⟨a9,a10,a11,a12,a13⟩ : T32)⟩ : T34))
@[simp] theorem cT34_snoc {xs : List T34} {a0 : List F32} {a1 : List F32} {a2 : List T131} {a3 : List T134} {a4 : List T32} {a5 : List T87} {a6 : List ByteArray} {a7 : List T51} {a8 : Int} {a9 : F32} {a10 : F32} {a11 : F32} {a12 : F32} {a13 : Int} : rows cT34 xs ++ [[.sl 1 (rows Zt a0),.sl 1 (rows Zt a1),.sl 8 (rows Yv a2),.sl 4 (rows Yw a3),.sl 5 (rows Xw a4),.sl 9 (rows Wa a5),.sl 1 (rows Yu a6),.sl 3 (rows Wq a7),.i .i64 a8,.f .f32 a9,.f .f32 a10,.f .f32 a11,.f .f32 a12,.i .i64 a13]] = rows cT34 (xs ++ [(⟨(⟨a0,a1,a2,a3⟩ : T25),a4,a5,a6,a7,a8,(⟨a9,a10,a11,a12,a13⟩ : T32)⟩ : T34)]):=Xc (c:=cT34) (x:=(⟨(⟨a0,a1,a2,a3⟩ : T25),a4,a5,a6,a7,a8,(⟨a9,a10,a11,a12,a13⟩ : T32)⟩ : T34))
@[simp] theorem cT34_rep {n : Nat} {a0 : List F32} {a1 : List F32} {a2 : List T131} {a3 : List T134} {a4 : List T32} {a5 : List T87} {a6 : List ByteArray} {a7 : List T51} {a8 : Int} {a9 : F32} {a10 : F32} {a11 : F32} {a12 : F32} {a13 : Int} : List.replicate n [.sl 1 (rows Zt a0),.sl 1 (rows Zt a1),.sl 8 (rows Yv a2),.sl 4 (rows Yw a3),.sl 5 (rows Xw a4),.sl 9 (rows Wa a5),.sl 1 (rows Yu a6),.sl 3 (rows Wq a7),.i .i64 a8,.f .f32 a9,.f .f32 a10,.f .f32 a11,.f .f32 a12,.i .i64 a13] = rows cT34 (List.replicate n (⟨(⟨a0,a1,a2,a3⟩ : T25),a4,a5,a6,a7,a8,(⟨a9,a10,a11,a12,a13⟩ : T32)⟩ : T34)):=Xo (c:=cT34) (x:=(⟨(⟨a0,a1,a2,a3⟩ : T25),a4,a5,a6,a7,a8,(⟨a9,a10,a11,a12,a13⟩ : T32)⟩ : T34))
theorem cT34_inj (x y : T34) (h : cT34 x = cT34 y) : x = y:=by
 obtain ⟨⟨i197,i198,i199,i200⟩,i201,i202,i203,i204,i205,⟨i206,i207,i208,i209,i210⟩⟩:=x
 obtain ⟨⟨i211,i212,i213,i214⟩,i215,i216,i217,i218,i219,⟨i220,i221,i222,i223,i224⟩⟩:=y
 simp only [cT34,List.cons.injEq,V.i.injEq,V.b.injEq,V.f.injEq,V.str.injEq,V.sl.injEq,V.own.injEq,true_and,and_true] at h
 simp_all [ri cT131_inj,ri cT134_inj,ri cT32_inj,ri cT51_inj,ri cT87_inj,ri cf_f32_inj,ri cs__inj]
def Xg (x : T131) : List V:=[.i .i64 x.a_,.i .i64 x.b_,.f .f32 x.lead_,.f .f32 x.store_,.f .f32 x.heat_.a0_,.f .f32 x.heat_.a1_,.f .f32 x.heat_.a2_,.f .f32 x.heat_.a3_]
section
variable {x : T131}
@[simp] theorem pT131_len : (Xg x).length = 8:=rfl
@[simp] theorem pT131_0 : (Xg x)[0]? = some (.i .i64 x.a_):=rfl
@[simp] theorem pT131_g0 (h : 0 < (Xg x).length) : (Xg x)[0] = .i .i64 x.a_:=rfl
@[simp] theorem pT131_1 : (Xg x)[1]? = some (.i .i64 x.b_):=rfl
@[simp] theorem pT131_g1 (h : 1 < (Xg x).length) : (Xg x)[1] = .i .i64 x.b_:=rfl
@[simp] theorem pT131_2 : (Xg x)[2]? = some (.f .f32 x.lead_):=rfl
@[simp] theorem pT131_g2 (h : 2 < (Xg x).length) : (Xg x)[2] = .f .f32 x.lead_:=rfl
@[simp] theorem pT131_3 : (Xg x)[3]? = some (.f .f32 x.store_):=rfl
@[simp] theorem pT131_g3 (h : 3 < (Xg x).length) : (Xg x)[3] = .f .f32 x.store_:=rfl
@[simp] theorem pT131_4 : (Xg x)[4]? = some (.f .f32 x.heat_.a0_):=rfl
@[simp] theorem pT131_g4 (h : 4 < (Xg x).length) : (Xg x)[4] = .f .f32 x.heat_.a0_:=rfl
@[simp] theorem pT131_5 : (Xg x)[5]? = some (.f .f32 x.heat_.a1_):=rfl
@[simp] theorem pT131_g5 (h : 5 < (Xg x).length) : (Xg x)[5] = .f .f32 x.heat_.a1_:=rfl
@[simp] theorem pT131_6 : (Xg x)[6]? = some (.f .f32 x.heat_.a2_):=rfl
@[simp] theorem pT131_g6 (h : 6 < (Xg x).length) : (Xg x)[6] = .f .f32 x.heat_.a2_:=rfl
@[simp] theorem pT131_7 : (Xg x)[7]? = some (.f .f32 x.heat_.a3_):=rfl
@[simp] theorem pT131_g7 (h : 7 < (Xg x).length) : (Xg x)[7] = .f .f32 x.heat_.a3_:=rfl
@[simp] theorem pT131_d4 : (Xg x).drop 4 = [.f .f32 x.heat_.a0_,.f .f32 x.heat_.a1_,.f .f32 x.heat_.a2_,.f .f32 x.heat_.a3_]:=rfl
@[simp] theorem pT131_s4_4 : ((Xg x).drop 4).take 4 = [.f .f32 x.heat_.a0_,.f .f32 x.heat_.a1_,.f .f32 x.heat_.a2_,.f .f32 x.heat_.a3_]:=rfl
@[simp] theorem pT131_c4 : Xz 1 4 ((Xg x).drop 4) = rows Zt [x.heat_.a0_,x.heat_.a1_,x.heat_.a2_,x.heat_.a3_]:=rfl
@[simp] theorem pT131_un1 : (Xg x).map un1 = Xg x:=rfl
@[simp] theorem pT131_snap : Uv (Xg x) = true:=by simp [Xg]
@[simp] theorem pT131_cell : (Xg x).all Wn = true:=by simp [Xg]
@[simp high] theorem pT131_vc : Un (.agg (Xg x)) = some (Xg x):=by simp [Xg]
@[simp] theorem pT131_noB {b : Nat} : (Xg x).all (Wo b) = true:=by simp [Xg]
@[simp] theorem pT131_bnd {k : Nat} : (Xg x).all (Zs k) = true:=by simp [Xg,Zs]
@[simp] theorem pT131_re {m : VM} : Ko m (Xg x) = some (Xg x):=by simp [Xg]
end
def Xs (x : T134) : List V:=[.i .i64 x.a_,.i .i64 x.b_,.f .f32 x.lead_,.f .f32 x.sun_]
section
variable {x : T134}
@[simp] theorem pT134_len : (Xs x).length = 4:=rfl
@[simp] theorem pT134_0 : (Xs x)[0]? = some (.i .i64 x.a_):=rfl
@[simp] theorem pT134_g0 (h : 0 < (Xs x).length) : (Xs x)[0] = .i .i64 x.a_:=rfl
@[simp] theorem pT134_1 : (Xs x)[1]? = some (.i .i64 x.b_):=rfl
@[simp] theorem pT134_g1 (h : 1 < (Xs x).length) : (Xs x)[1] = .i .i64 x.b_:=rfl
@[simp] theorem pT134_2 : (Xs x)[2]? = some (.f .f32 x.lead_):=rfl
@[simp] theorem pT134_g2 (h : 2 < (Xs x).length) : (Xs x)[2] = .f .f32 x.lead_:=rfl
@[simp] theorem pT134_3 : (Xs x)[3]? = some (.f .f32 x.sun_):=rfl
@[simp] theorem pT134_g3 (h : 3 < (Xs x).length) : (Xs x)[3] = .f .f32 x.sun_:=rfl
@[simp] theorem pT134_un1 : (Xs x).map un1 = Xs x:=rfl
@[simp] theorem pT134_snap : Uv (Xs x) = true:=by simp [Xs]
@[simp] theorem pT134_cell : (Xs x).all Wn = true:=by simp [Xs]
@[simp high] theorem pT134_vc : Un (.agg (Xs x)) = some (Xs x):=by simp [Xs]
@[simp] theorem pT134_noB {b : Nat} : (Xs x).all (Wo b) = true:=by simp [Xs]
@[simp] theorem pT134_bnd {k : Nat} : (Xs x).all (Zs k) = true:=by simp [Xs,Zs]
@[simp] theorem pT134_re {m : VM} : Ko m (Xs x) = some (Xs x):=by simp [Xs]
end
def Xk (x : T32) : List V:=[.f .f32 x.burnt_,.f .f32 x.steam_,.f .f32 x.up_,.f .f32 x.lost_,.i .i64 x.smoky_]
section
variable {x : T32}
@[simp] theorem pT32_len : (Xk x).length = 5:=rfl
@[simp] theorem pT32_0 : (Xk x)[0]? = some (.f .f32 x.burnt_):=rfl
@[simp] theorem pT32_g0 (h : 0 < (Xk x).length) : (Xk x)[0] = .f .f32 x.burnt_:=rfl
@[simp] theorem pT32_1 : (Xk x)[1]? = some (.f .f32 x.steam_):=rfl
@[simp] theorem pT32_g1 (h : 1 < (Xk x).length) : (Xk x)[1] = .f .f32 x.steam_:=rfl
@[simp] theorem pT32_2 : (Xk x)[2]? = some (.f .f32 x.up_):=rfl
@[simp] theorem pT32_g2 (h : 2 < (Xk x).length) : (Xk x)[2] = .f .f32 x.up_:=rfl
@[simp] theorem pT32_3 : (Xk x)[3]? = some (.f .f32 x.lost_):=rfl
@[simp] theorem pT32_g3 (h : 3 < (Xk x).length) : (Xk x)[3] = .f .f32 x.lost_:=rfl
@[simp] theorem pT32_4 : (Xk x)[4]? = some (.i .i64 x.smoky_):=rfl
@[simp] theorem pT32_g4 (h : 4 < (Xk x).length) : (Xk x)[4] = .i .i64 x.smoky_:=rfl
@[simp] theorem pT32_un1 : (Xk x).map un1 = Xk x:=rfl
@[simp] theorem pT32_snap : Uv (Xk x) = true:=by simp [Xk]
@[simp] theorem pT32_cell : (Xk x).all Wn = true:=by simp [Xk]
@[simp high] theorem pT32_vc : Un (.agg (Xk x)) = some (Xk x):=by simp [Xk]
@[simp] theorem pT32_noB {b : Nat} : (Xk x).all (Wo b) = true:=by simp [Xk]
@[simp] theorem pT32_bnd {k : Nat} : (Xk x).all (Zs k) = true:=by simp [Xk,Zs]
@[simp] theorem pT32_re {m : VM} : Ko m (Xk x) = some (Xk x):=by simp [Xk]
end
def Up (x : T51) : List V:=[.f .f32 x.outside_,.f .f32 x.sun_,.f .f32 x.wind_]
section
variable {x : T51}
@[simp] theorem pT51_len : (Up x).length = 3:=rfl
@[simp] theorem pT51_0 : (Up x)[0]? = some (.f .f32 x.outside_):=rfl
@[simp] theorem pT51_g0 (h : 0 < (Up x).length) : (Up x)[0] = .f .f32 x.outside_:=rfl
@[simp] theorem pT51_1 : (Up x)[1]? = some (.f .f32 x.sun_):=rfl
@[simp] theorem pT51_g1 (h : 1 < (Up x).length) : (Up x)[1] = .f .f32 x.sun_:=rfl
@[simp] theorem pT51_2 : (Up x)[2]? = some (.f .f32 x.wind_):=rfl
@[simp] theorem pT51_g2 (h : 2 < (Up x).length) : (Up x)[2] = .f .f32 x.wind_:=rfl
@[simp] theorem pT51_un1 : (Up x).map un1 = Up x:=rfl
@[simp] theorem pT51_snap : Uv (Up x) = true:=by simp [Up]
@[simp] theorem pT51_cell : (Up x).all Wn = true:=by simp [Up]
@[simp high] theorem pT51_vc : Un (.agg (Up x)) = some (Up x):=by simp [Up]
@[simp] theorem pT51_noB {b : Nat} : (Up x).all (Wo b) = true:=by simp [Up]
@[simp] theorem pT51_bnd {k : Nat} : (Up x).all (Zs k) = true:=by simp [Up,Zs]
@[simp] theorem pT51_re {m : VM} : Ko m (Up x) = some (Up x):=by simp [Up]
end
def Wm (x : T204) : List V:=[.sl 1 (rows Yu x.parts_),.sl 1 (rows Yu x.names_),.sl 3 (rows Yi x.code_),.b x.bad_]
section
variable {x : T204}
@[simp] theorem pT204_len : (Wm x).length = 4:=rfl
@[simp] theorem pT204_0 : (Wm x)[0]? = some (.sl 1 (rows Yu x.parts_)):=rfl
@[simp] theorem pT204_g0 (h : 0 < (Wm x).length) : (Wm x)[0] = .sl 1 (rows Yu x.parts_):=rfl
@[simp] theorem pT204_1 : (Wm x)[1]? = some (.sl 1 (rows Yu x.names_)):=rfl
@[simp] theorem pT204_g1 (h : 1 < (Wm x).length) : (Wm x)[1] = .sl 1 (rows Yu x.names_):=rfl
@[simp] theorem pT204_2 : (Wm x)[2]? = some (.sl 3 (rows Yi x.code_)):=rfl
@[simp] theorem pT204_g2 (h : 2 < (Wm x).length) : (Wm x)[2] = .sl 3 (rows Yi x.code_):=rfl
@[simp] theorem pT204_3 : (Wm x)[3]? = some (.b x.bad_):=rfl
@[simp] theorem pT204_g3 (h : 3 < (Wm x).length) : (Wm x)[3] = .b x.bad_:=rfl
@[simp] theorem pT204_un1 : (Wm x).map un1 = Wm x:=rfl
@[simp] theorem pT204_snap : Uv (Wm x) = true:=by simp [Wm]
@[simp] theorem pT204_cell : (Wm x).all Wn = true:=by simp [Wm]
@[simp high] theorem pT204_vc : Un (.agg (Wm x)) = some (Wm x):=by simp [Wm]
@[simp] theorem pT204_noB {b : Nat} : (Wm x).all (Wo b) = true:=by simp [Wm]
@[simp] theorem pT204_bnd {k : Nat} : (Wm x).all (Zs k) = true:=by simp [Wm,Zs]
@[simp] theorem pT204_re {m : VM} : Ko m (Wm x) = some (Wm x):=by simp [Wm]
end
def Ya (x : T149) : List V:=[.f .f32 x.wet_.a0_,.f .f32 x.wet_.a1_,.f .f32 x.wet_.a2_,.f .f32 x.wet_.a3_,.f .f32 x.wet_.a4_,.f .f32 x.wet_.a5_,.f .f32 x.heat_.a0_,.f .f32 x.heat_.a1_,.f .f32 x.heat_.a2_,.f .f32 x.heat_.a3_,.f .f32 x.heat_.a4_,.f .f32 x.heat_.a5_,.f .f32 x.fuel_.a0_,.f .f32 x.fuel_.a1_,.f .f32 x.fuel_.a2_,.f .f32 x.fuel_.a3_,.f .f32 x.fuel_.a4_,.f .f32 x.fuel_.a5_]
section
variable {x : T149}
@[simp] theorem pT149_len : (Ya x).length = 18:=rfl
@[simp] theorem pT149_0 : (Ya x)[0]? = some (.f .f32 x.wet_.a0_):=rfl
@[simp] theorem pT149_g0 (h : 0 < (Ya x).length) : (Ya x)[0] = .f .f32 x.wet_.a0_:=rfl
@[simp] theorem pT149_1 : (Ya x)[1]? = some (.f .f32 x.wet_.a1_):=rfl
@[simp] theorem pT149_g1 (h : 1 < (Ya x).length) : (Ya x)[1] = .f .f32 x.wet_.a1_:=rfl
@[simp] theorem pT149_2 : (Ya x)[2]? = some (.f .f32 x.wet_.a2_):=rfl
@[simp] theorem pT149_g2 (h : 2 < (Ya x).length) : (Ya x)[2] = .f .f32 x.wet_.a2_:=rfl
@[simp] theorem pT149_3 : (Ya x)[3]? = some (.f .f32 x.wet_.a3_):=rfl
@[simp] theorem pT149_g3 (h : 3 < (Ya x).length) : (Ya x)[3] = .f .f32 x.wet_.a3_:=rfl
@[simp] theorem pT149_4 : (Ya x)[4]? = some (.f .f32 x.wet_.a4_):=rfl
@[simp] theorem pT149_g4 (h : 4 < (Ya x).length) : (Ya x)[4] = .f .f32 x.wet_.a4_:=rfl
@[simp] theorem pT149_5 : (Ya x)[5]? = some (.f .f32 x.wet_.a5_):=rfl
@[simp] theorem pT149_g5 (h : 5 < (Ya x).length) : (Ya x)[5] = .f .f32 x.wet_.a5_:=rfl
@[simp] theorem pT149_6 : (Ya x)[6]? = some (.f .f32 x.heat_.a0_):=rfl
@[simp] theorem pT149_g6 (h : 6 < (Ya x).length) : (Ya x)[6] = .f .f32 x.heat_.a0_:=rfl
@[simp] theorem pT149_7 : (Ya x)[7]? = some (.f .f32 x.heat_.a1_):=rfl
@[simp] theorem pT149_g7 (h : 7 < (Ya x).length) : (Ya x)[7] = .f .f32 x.heat_.a1_:=rfl
@[simp] theorem pT149_8 : (Ya x)[8]? = some (.f .f32 x.heat_.a2_):=rfl
@[simp] theorem pT149_g8 (h : 8 < (Ya x).length) : (Ya x)[8] = .f .f32 x.heat_.a2_:=rfl
@[simp] theorem pT149_9 : (Ya x)[9]? = some (.f .f32 x.heat_.a3_):=rfl
@[simp] theorem pT149_g9 (h : 9 < (Ya x).length) : (Ya x)[9] = .f .f32 x.heat_.a3_:=rfl
@[simp] theorem pT149_10 : (Ya x)[10]? = some (.f .f32 x.heat_.a4_):=rfl
@[simp] theorem pT149_g10 (h : 10 < (Ya x).length) : (Ya x)[10] = .f .f32 x.heat_.a4_:=rfl
@[simp] theorem pT149_11 : (Ya x)[11]? = some (.f .f32 x.heat_.a5_):=rfl
@[simp] theorem pT149_g11 (h : 11 < (Ya x).length) : (Ya x)[11] = .f .f32 x.heat_.a5_:=rfl
@[simp] theorem pT149_12 : (Ya x)[12]? = some (.f .f32 x.fuel_.a0_):=rfl
@[simp] theorem pT149_g12 (h : 12 < (Ya x).length) : (Ya x)[12] = .f .f32 x.fuel_.a0_:=rfl
@[simp] theorem pT149_13 : (Ya x)[13]? = some (.f .f32 x.fuel_.a1_):=rfl
@[simp] theorem pT149_g13 (h : 13 < (Ya x).length) : (Ya x)[13] = .f .f32 x.fuel_.a1_:=rfl
@[simp] theorem pT149_14 : (Ya x)[14]? = some (.f .f32 x.fuel_.a2_):=rfl
@[simp] theorem pT149_g14 (h : 14 < (Ya x).length) : (Ya x)[14] = .f .f32 x.fuel_.a2_:=rfl
@[simp] theorem pT149_15 : (Ya x)[15]? = some (.f .f32 x.fuel_.a3_):=rfl
@[simp] theorem pT149_g15 (h : 15 < (Ya x).length) : (Ya x)[15] = .f .f32 x.fuel_.a3_:=rfl
@[simp] theorem pT149_16 : (Ya x)[16]? = some (.f .f32 x.fuel_.a4_):=rfl
@[simp] theorem pT149_g16 (h : 16 < (Ya x).length) : (Ya x)[16] = .f .f32 x.fuel_.a4_:=rfl
@[simp] theorem pT149_17 : (Ya x)[17]? = some (.f .f32 x.fuel_.a5_):=rfl
@[simp] theorem pT149_g17 (h : 17 < (Ya x).length) : (Ya x)[17] = .f .f32 x.fuel_.a5_:=rfl
@[simp] theorem pT149_s0_6 : (Ya x).take 6 = [.f .f32 x.wet_.a0_,.f .f32 x.wet_.a1_,.f .f32 x.wet_.a2_,.f .f32 x.wet_.a3_,.f .f32 x.wet_.a4_,.f .f32 x.wet_.a5_]:=rfl
@[simp] theorem pT149_s6_6 : ((Ya x).drop 6).take 6 = [.f .f32 x.heat_.a0_,.f .f32 x.heat_.a1_,.f .f32 x.heat_.a2_,.f .f32 x.heat_.a3_,.f .f32 x.heat_.a4_,.f .f32 x.heat_.a5_]:=rfl
@[simp] theorem pT149_d12 : (Ya x).drop 12 = [.f .f32 x.fuel_.a0_,.f .f32 x.fuel_.a1_,.f .f32 x.fuel_.a2_,.f .f32 x.fuel_.a3_,.f .f32 x.fuel_.a4_,.f .f32 x.fuel_.a5_]:=rfl
@[simp] theorem pT149_s12_6 : ((Ya x).drop 12).take 6 = [.f .f32 x.fuel_.a0_,.f .f32 x.fuel_.a1_,.f .f32 x.fuel_.a2_,.f .f32 x.fuel_.a3_,.f .f32 x.fuel_.a4_,.f .f32 x.fuel_.a5_]:=rfl
@[simp] theorem pT149_c0 : Xz 1 6 ((Ya x).drop 0) = rows Zt [x.wet_.a0_,x.wet_.a1_,x.wet_.a2_,x.wet_.a3_,x.wet_.a4_,x.wet_.a5_]:=rfl
@[simp] theorem pT149_c : Xz 1 6 (Ya x) = rows Zt [x.wet_.a0_,x.wet_.a1_,x.wet_.a2_,x.wet_.a3_,x.wet_.a4_,x.wet_.a5_]:=rfl
@[simp] theorem pT149_c6 : Xz 1 6 ((Ya x).drop 6) = rows Zt [x.heat_.a0_,x.heat_.a1_,x.heat_.a2_,x.heat_.a3_,x.heat_.a4_,x.heat_.a5_]:=rfl
@[simp] theorem pT149_c12 : Xz 1 6 ((Ya x).drop 12) = rows Zt [x.fuel_.a0_,x.fuel_.a1_,x.fuel_.a2_,x.fuel_.a3_,x.fuel_.a4_,x.fuel_.a5_]:=rfl
@[simp] theorem pT149_un1 : (Ya x).map un1 = Ya x:=rfl
@[simp] theorem pT149_snap : Uv (Ya x) = true:=by simp [Ya]
@[simp] theorem pT149_cell : (Ya x).all Wn = true:=by simp [Ya]
@[simp high] theorem pT149_vc : Un (.agg (Ya x)) = some (Ya x):=by simp [Ya]
@[simp] theorem pT149_noB {b : Nat} : (Ya x).all (Wo b) = true:=by simp [Ya]
@[simp] theorem pT149_bnd {k : Nat} : (Ya x).all (Zs k) = true:=by simp [Ya,Zs]
@[simp] theorem pT149_re {m : VM} : Ko m (Ya x) = some (Ya x):=by simp [Ya]
end
@[simp] def Ww (x : Int) : List V:=[.i .i64 x]
instance : Pln Ww:=⟨fun x => by simp⟩
@[simp] theorem ci_i64_len {x : Int} : (Ww x).length = 1:=rfl
@[simp] theorem ci_i64_set {xs : List Int} {i : Nat} {a : Int} : (rows Ww xs).set i [.i .i64 a] = rows Ww (xs.set i a):=Xn (c:=Ww) (x:=a)
@[simp] theorem ci_i64_snoc {xs : List Int} {a : Int} : rows Ww xs ++ [[.i .i64 a]] = rows Ww (xs ++ [a]):=Xc (c:=Ww) (x:=a)
@[simp] theorem ci_i64_rep {n : Nat} {a : Int} : List.replicate n [.i .i64 a] = rows Ww (List.replicate n a):=Xo (c:=Ww) (x:=a)
theorem ci_i64_inj (x y : Int) (h : Ww x = Ww y) : x = y:=by
 simp only [Ww,List.cons.injEq,V.i.injEq,V.b.injEq,V.f.injEq,V.str.injEq,V.sl.injEq,V.own.injEq,true_and,and_true] at h
 simp_all
def Xb (x : T130) : List V:=[.f .f32 x.a0_,.f .f32 x.a1_,.f .f32 x.a2_,.f .f32 x.a3_]
section
variable {x : T130}
@[simp] theorem pT130_len : (Xb x).length = 4:=rfl
@[simp] theorem pT130_0 : (Xb x)[0]? = some (.f .f32 x.a0_):=rfl
@[simp] theorem pT130_g0 (h : 0 < (Xb x).length) : (Xb x)[0] = .f .f32 x.a0_:=rfl
@[simp] theorem pT130_1 : (Xb x)[1]? = some (.f .f32 x.a1_):=rfl
@[simp] theorem pT130_g1 (h : 1 < (Xb x).length) : (Xb x)[1] = .f .f32 x.a1_:=rfl
@[simp] theorem pT130_2 : (Xb x)[2]? = some (.f .f32 x.a2_):=rfl
@[simp] theorem pT130_g2 (h : 2 < (Xb x).length) : (Xb x)[2] = .f .f32 x.a2_:=rfl
@[simp] theorem pT130_3 : (Xb x)[3]? = some (.f .f32 x.a3_):=rfl
@[simp] theorem pT130_g3 (h : 3 < (Xb x).length) : (Xb x)[3] = .f .f32 x.a3_:=rfl
@[simp] theorem pT130_c0 : Xz 1 4 ((Xb x).drop 0) = rows Zt [x.a0_,x.a1_,x.a2_,x.a3_]:=rfl
@[simp] theorem pT130_c : Xz 1 4 (Xb x) = rows Zt [x.a0_,x.a1_,x.a2_,x.a3_]:=rfl
@[simp] theorem pT130_un1 : (Xb x).map un1 = Xb x:=rfl
@[simp] theorem pT130_snap : Uv (Xb x) = true:=by simp [Xb]
@[simp] theorem pT130_cell : (Xb x).all Wn = true:=by simp [Xb]
@[simp high] theorem pT130_vc : Un (.agg (Xb x)) = some (Xb x):=by simp [Xb]
@[simp] theorem pT130_noB {b : Nat} : (Xb x).all (Wo b) = true:=by simp [Xb]
@[simp] theorem pT130_bnd {k : Nat} : (Xb x).all (Zs k) = true:=by simp [Xb,Zs]
@[simp] theorem pT130_re {m : VM} : Ko m (Xb x) = some (Xb x):=by simp [Xb]
end
@[simp] def Jo (x : T130) : List V:=[.f .f32 x.a0_,.f .f32 x.a1_,.f .f32 x.a2_,.f .f32 x.a3_]
instance : Pln Jo:=⟨fun x => by simp⟩
@[simp] theorem cT130_len {x : T130} : (Jo x).length = 4:=rfl
@[simp] theorem cT130_set {xs : List T130} {i : Nat} {a0 : F32} {a1 : F32} {a2 : F32} {a3 : F32} : (rows Jo xs).set i [.f .f32 a0,.f .f32 a1,.f .f32 a2,.f .f32 a3] = rows Jo (xs.set i (⟨a0,a1,a2,a3⟩ : T130)):=Xn (c:=Jo) (x:=(⟨a0,a1,a2,a3⟩ : T130))
@[simp] theorem cT130_snoc {xs : List T130} {a0 : F32} {a1 : F32} {a2 : F32} {a3 : F32} : rows Jo xs ++ [[.f .f32 a0,.f .f32 a1,.f .f32 a2,.f .f32 a3]] = rows Jo (xs ++ [(⟨a0,a1,a2,a3⟩ : T130)]):=Xc (c:=Jo) (x:=(⟨a0,a1,a2,a3⟩ : T130))
@[simp] theorem cT130_rep {n : Nat} {a0 : F32} {a1 : F32} {a2 : F32} {a3 : F32} : List.replicate n [.f .f32 a0,.f .f32 a1,.f .f32 a2,.f .f32 a3] = rows Jo (List.replicate n (⟨a0,a1,a2,a3⟩ : T130)):=Xo (c:=Jo) (x:=(⟨a0,a1,a2,a3⟩ : T130))
theorem cT130_inj (x y : T130) (h : Jo x = Jo y) : x = y:=by
 obtain ⟨i507,i508,i509,i510⟩:=x
 obtain ⟨i511,i512,i513,i514⟩:=y
 simp only [Jo,List.cons.injEq,V.i.injEq,V.b.injEq,V.f.injEq,V.str.injEq,V.sl.injEq,V.own.injEq,true_and,and_true] at h
 simp_all
def Yt (x : T148) : List V:=[.f .f32 x.a0_,.f .f32 x.a1_,.f .f32 x.a2_,.f .f32 x.a3_,.f .f32 x.a4_,.f .f32 x.a5_]
section
variable {x : T148}
@[simp] theorem pT148_len : (Yt x).length = 6:=rfl
@[simp] theorem pT148_0 : (Yt x)[0]? = some (.f .f32 x.a0_):=rfl
@[simp] theorem pT148_g0 (h : 0 < (Yt x).length) : (Yt x)[0] = .f .f32 x.a0_:=rfl
@[simp] theorem pT148_1 : (Yt x)[1]? = some (.f .f32 x.a1_):=rfl
@[simp] theorem pT148_g1 (h : 1 < (Yt x).length) : (Yt x)[1] = .f .f32 x.a1_:=rfl
@[simp] theorem pT148_2 : (Yt x)[2]? = some (.f .f32 x.a2_):=rfl
@[simp] theorem pT148_g2 (h : 2 < (Yt x).length) : (Yt x)[2] = .f .f32 x.a2_:=rfl
@[simp] theorem pT148_3 : (Yt x)[3]? = some (.f .f32 x.a3_):=rfl
@[simp] theorem pT148_g3 (h : 3 < (Yt x).length) : (Yt x)[3] = .f .f32 x.a3_:=rfl
@[simp] theorem pT148_4 : (Yt x)[4]? = some (.f .f32 x.a4_):=rfl
@[simp] theorem pT148_g4 (h : 4 < (Yt x).length) : (Yt x)[4] = .f .f32 x.a4_:=rfl
@[simp] theorem pT148_5 : (Yt x)[5]? = some (.f .f32 x.a5_):=rfl
@[simp] theorem pT148_g5 (h : 5 < (Yt x).length) : (Yt x)[5] = .f .f32 x.a5_:=rfl
@[simp] theorem pT148_c0 : Xz 1 6 ((Yt x).drop 0) = rows Zt [x.a0_,x.a1_,x.a2_,x.a3_,x.a4_,x.a5_]:=rfl
@[simp] theorem pT148_c : Xz 1 6 (Yt x) = rows Zt [x.a0_,x.a1_,x.a2_,x.a3_,x.a4_,x.a5_]:=rfl
@[simp] theorem pT148_un1 : (Yt x).map un1 = Yt x:=rfl
@[simp] theorem pT148_snap : Uv (Yt x) = true:=by simp [Yt]
@[simp] theorem pT148_cell : (Yt x).all Wn = true:=by simp [Yt]
@[simp high] theorem pT148_vc : Un (.agg (Yt x)) = some (Yt x):=by simp [Yt]
@[simp] theorem pT148_noB {b : Nat} : (Yt x).all (Wo b) = true:=by simp [Yt]
@[simp] theorem pT148_bnd {k : Nat} : (Yt x).all (Zs k) = true:=by simp [Yt,Zs]
@[simp] theorem pT148_re {m : VM} : Ko m (Yt x) = some (Yt x):=by simp [Yt]
end
@[simp] def Jn (x : T148) : List V:=[.f .f32 x.a0_,.f .f32 x.a1_,.f .f32 x.a2_,.f .f32 x.a3_,.f .f32 x.a4_,.f .f32 x.a5_]
instance : Pln Jn:=⟨fun x => by simp⟩
@[simp] theorem cT148_len {x : T148} : (Jn x).length = 6:=rfl
@[simp] theorem cT148_set {xs : List T148} {i : Nat} {a0 : F32} {a1 : F32} {a2 : F32} {a3 : F32} {a4 : F32} {a5 : F32} : (rows Jn xs).set i [.f .f32 a0,.f .f32 a1,.f .f32 a2,.f .f32 a3,.f .f32 a4,.f .f32 a5] = rows Jn (xs.set i (⟨a0,a1,a2,a3,a4,a5⟩ : T148)):=Xn (c:=Jn) (x:=(⟨a0,a1,a2,a3,a4,a5⟩ : T148))
@[simp] theorem cT148_snoc {xs : List T148} {a0 : F32} {a1 : F32} {a2 : F32} {a3 : F32} {a4 : F32} {a5 : F32} : rows Jn xs ++ [[.f .f32 a0,.f .f32 a1,.f .f32 a2,.f .f32 a3,.f .f32 a4,.f .f32 a5]] = rows Jn (xs ++ [(⟨a0,a1,a2,a3,a4,a5⟩ : T148)]):=Xc (c:=Jn) (x:=(⟨a0,a1,a2,a3,a4,a5⟩ : T148))
@[simp] theorem cT148_rep {n : Nat} {a0 : F32} {a1 : F32} {a2 : F32} {a3 : F32} {a4 : F32} {a5 : F32} : List.replicate n [.f .f32 a0,.f .f32 a1,.f .f32 a2,.f .f32 a3,.f .f32 a4,.f .f32 a5] = rows Jn (List.replicate n (⟨a0,a1,a2,a3,a4,a5⟩ : T148)):=Xo (c:=Jn) (x:=(⟨a0,a1,a2,a3,a4,a5⟩ : T148))
theorem cT148_inj (x y : T148) (h : Jn x = Jn y) : x = y:=by
 obtain ⟨i571,i572,i573,i574,i575,i576⟩:=x
 obtain ⟨i577,i578,i579,i580,i581,i582⟩:=y
 simp only [Jn,List.cons.injEq,V.i.injEq,V.b.injEq,V.f.injEq,V.str.injEq,V.sl.injEq,V.own.injEq,true_and,and_true] at h
 simp_all
@[simp] def Ub (x : T87) : List V:=[.i .i64 x.room_,.i .i64 x.flue_,.i .i64 x.brain_,.own 18 (rows Yk x.stove_.logs_),.f .f32 x.stove_.box_,.f .f32 x.stove_.damper_,.i .i8 x.stove_.state_,.i .i64 x.stove_.ash_,.f .f32 x.stove_.dust_]
instance : Pow Ub:=⟨fun x => by simp⟩
@[simp] theorem cT87o_unE {xs : List T87} : unE (rows Ub xs) = rows Wa xs:=by
 induction xs with
 | nil => rfl
 | cons x xs ih => simp [ih]
@[simp] theorem cT87o_frzE {xs : List T87} : Jj (rows Ub xs) = rows Wa xs:=by
 induction xs with
 | nil => rfl
 | cons x xs ih => simp [ih,Jj,Qw,frz]
@[simp] theorem cT87o_rep0 {n : Nat} : List.replicate n ([.i .i64 0,.i .i64 0,.i .i64 0,.own 18 [],.f .f32 (some 0),.f .f32 (some 0),.i .i8 0,.i .i64 0,.f .f32 (some 0)] : List V) = rows Ub (List.replicate n (⟨0,0,0,(⟨[],(some 0),(some 0),0,0,(some 0)⟩ : T85)⟩ : T87)):=by simp [rows]
@[simp] theorem cT87o_len {x : T87} : (Ub x).length = 9:=rfl
@[simp] theorem cT87o_set {xs : List T87} {i : Nat} {a0 : Int} {a1 : Int} {a2 : Int} {a3 : List T149} {a4 : F32} {a5 : F32} {a6 : Int} {a7 : Int} {a8 : F32} : (rows Ub xs).set i [.i .i64 a0,.i .i64 a1,.i .i64 a2,.own 18 (rows Yk a3),.f .f32 a4,.f .f32 a5,.i .i8 a6,.i .i64 a7,.f .f32 a8] = rows Ub (xs.set i (⟨a0,a1,a2,(⟨a3,a4,a5,a6,a7,a8⟩ : T85)⟩ : T87)):=Xn (c:=Ub) (x:=(⟨a0,a1,a2,(⟨a3,a4,a5,a6,a7,a8⟩ : T85)⟩ : T87))
@[simp] theorem cT87o_snoc {xs : List T87} {a0 : Int} {a1 : Int} {a2 : Int} {a3 : List T149} {a4 : F32} {a5 : F32} {a6 : Int} {a7 : Int} {a8 : F32} : rows Ub xs ++ [[.i .i64 a0,.i .i64 a1,.i .i64 a2,.own 18 (rows Yk a3),.f .f32 a4,.f .f32 a5,.i .i8 a6,.i .i64 a7,.f .f32 a8]] = rows Ub (xs ++ [(⟨a0,a1,a2,(⟨a3,a4,a5,a6,a7,a8⟩ : T85)⟩ : T87)]):=Xc (c:=Ub) (x:=(⟨a0,a1,a2,(⟨a3,a4,a5,a6,a7,a8⟩ : T85)⟩ : T87))
@[simp] theorem cT87o_rep {n : Nat} {a0 : Int} {a1 : Int} {a2 : Int} {a3 : List T149} {a4 : F32} {a5 : F32} {a6 : Int} {a7 : Int} {a8 : F32} : List.replicate n [.i .i64 a0,.i .i64 a1,.i .i64 a2,.own 18 (rows Yk a3),.f .f32 a4,.f .f32 a5,.i .i8 a6,.i .i64 a7,.f .f32 a8] = rows Ub (List.replicate n (⟨a0,a1,a2,(⟨a3,a4,a5,a6,a7,a8⟩ : T85)⟩ : T87)):=Xo (c:=Ub) (x:=(⟨a0,a1,a2,(⟨a3,a4,a5,a6,a7,a8⟩ : T85)⟩ : T87))
theorem cT87o_inj (x y : T87) (h : Ub x = Ub y) : x = y:=by
 obtain ⟨i663,i664,i665,⟨i666,i667,i668,i669,i670,i671⟩⟩:=x
 obtain ⟨i672,i673,i674,⟨i675,i676,i677,i678,i679,i680⟩⟩:=y
 simp only [Ub,List.cons.injEq,V.i.injEq,V.b.injEq,V.f.injEq,V.str.injEq,V.sl.injEq,V.own.injEq,true_and,and_true] at h
 simp_all [ri Gi]
theorem okx108 : TellsX Tryz.prog 108 Gt:=TellsX.of (e:=Extern.MathFloatBits.float32bits) Tryz.func108 (by kernel_rfl) (by kernel_rfl) (by kernel_rfl) (by kernel_rfl) (xbits32)
theorem okx154 : TellsX Tryz.prog 154 FXof64:=TellsX.of (e:=Extern.MathFloatBits.float64frombits) Tryz.func154 (by kernel_rfl) (by kernel_rfl) (by kernel_rfl) (by kernel_rfl) (xof64)
theorem okx155 : TellsX Tryz.prog 155 FXbits64:=TellsX.of (e:=Extern.MathFloatBits.float64bits) Tryz.func155 (by kernel_rfl) (by kernel_rfl) (by kernel_rfl) (by kernel_rfl) (xbits64)
@[simp] theorem cs__iff {xs ys} : rows Yu xs = rows Yu ys ↔ xs = ys:=ri cs__inj
@[simp] theorem cT189_iff {xs ys} : rows Yi xs = rows Yi ys ↔ xs = ys:=ri cT189_inj
@[simp] theorem cf_f32_iff {xs ys} : rows Zt xs = rows Zt ys ↔ xs = ys:=ri cf_f32_inj
@[simp] theorem cT131_iff {xs ys} : rows Yv xs = rows Yv ys ↔ xs = ys:=ri cT131_inj
@[simp] theorem cT134_iff {xs ys} : rows Yw xs = rows Yw ys ↔ xs = ys:=ri cT134_inj
@[simp] theorem cT25_iff {xs ys} : rows cT25 xs = rows cT25 ys ↔ xs = ys:=ri cT25_inj
@[simp] theorem cT32_iff {xs ys} : rows Xw xs = rows Xw ys ↔ xs = ys:=ri cT32_inj
@[simp] theorem cT149_iff {xs ys} : rows Yk xs = rows Yk ys ↔ xs = ys:=ri Gi
@[simp] theorem cT85_iff {xs ys} : rows cT85 xs = rows cT85 ys ↔ xs = ys:=ri cT85_inj
@[simp] theorem cT87_iff {xs ys} : rows Wa xs = rows Wa ys ↔ xs = ys:=ri cT87_inj
@[simp] theorem cT51_iff {xs ys} : rows Wq xs = rows Wq ys ↔ xs = ys:=ri cT51_inj
@[simp] theorem cT34_iff {xs ys} : rows cT34 xs = rows cT34 ys ↔ xs = ys:=ri cT34_inj
@[simp] theorem ci_i64_iff {xs ys} : rows Ww xs = rows Ww ys ↔ xs = ys:=ri ci_i64_inj
@[simp] theorem cT130_iff {xs ys} : rows Jo xs = rows Jo ys ↔ xs = ys:=ri cT130_inj
@[simp] theorem cT148_iff {xs ys} : rows Jn xs = rows Jn ys ↔ xs = ys:=ri cT148_inj
@[simp] theorem cT87o_iff {xs ys} : rows Ub xs = rows Ub ys ↔ xs = ys:=ri cT87o_inj
@[simp] theorem pT25_iff {x y : T25} : Wb x = Wb y ↔ x = y:=⟨fun h => by
 obtain ⟨x1,x2,x3,x4⟩:=x
 obtain ⟨y1,y2,y3,y4⟩:=y
 simp only [Wb,List.cons.injEq,V.i.injEq,V.b.injEq,V.f.injEq,V.str.injEq,V.sl.injEq,V.agg.injEq,V.cptr.injEq,true_and,and_true] at h
 simp_all,fun h => by rw [h]⟩
@[simp] theorem pT85_iff {x y : T85} : Xx x = Xx y ↔ x = y:=⟨fun h => by
 obtain ⟨x1,x2,x3,x4,x5,x6⟩:=x
 obtain ⟨y1,y2,y3,y4,y5,y6⟩:=y
 simp only [Xx,List.cons.injEq,V.i.injEq,V.b.injEq,V.f.injEq,V.str.injEq,V.sl.injEq,V.agg.injEq,V.cptr.injEq,true_and,and_true] at h
 simp_all,fun h => by rw [h]⟩
@[simp] theorem pT87_iff {x y : T87} : Wk x = Wk y ↔ x = y:=⟨fun h => by
 obtain ⟨x1,x2,x3,⟨x4,x5,x6,x7,x8,x9⟩⟩:=x
 obtain ⟨y1,y2,y3,⟨y4,y5,y6,y7,y8,y9⟩⟩:=y
 simp only [Wk,List.cons.injEq,V.i.injEq,V.b.injEq,V.f.injEq,V.str.injEq,V.sl.injEq,V.agg.injEq,V.cptr.injEq,true_and,and_true] at h
 simp_all,fun h => by rw [h]⟩
@[simp] theorem pT34_iff {x y : T34} : Yj x = Yj y ↔ x = y:=⟨fun h => by
 obtain ⟨⟨x1,x2,x3,x4⟩,x5,x6,x7,x8,x9,⟨x10,x11,x12,x13,x14⟩⟩:=x
 obtain ⟨⟨y1,y2,y3,y4⟩,y5,y6,y7,y8,y9,⟨y10,y11,y12,y13,y14⟩⟩:=y
 simp only [Yj,List.cons.injEq,V.i.injEq,V.b.injEq,V.f.injEq,V.str.injEq,V.sl.injEq,V.agg.injEq,V.cptr.injEq,true_and,and_true] at h
 simp_all,fun h => by rw [h]⟩
@[simp] theorem pT131_iff {x y : T131} : Xg x = Xg y ↔ x = y:=⟨fun h => by
 obtain ⟨x1,x2,x3,x4,⟨x5,x6,x7,x8⟩⟩:=x
 obtain ⟨y1,y2,y3,y4,⟨y5,y6,y7,y8⟩⟩:=y
 simp only [Xg,List.cons.injEq,V.i.injEq,V.b.injEq,V.f.injEq,V.str.injEq,V.sl.injEq,V.agg.injEq,V.cptr.injEq,true_and,and_true] at h
 simp_all,fun h => by rw [h]⟩
@[simp] theorem pT134_iff {x y : T134} : Xs x = Xs y ↔ x = y:=⟨fun h => by
 obtain ⟨x1,x2,x3,x4⟩:=x
 obtain ⟨y1,y2,y3,y4⟩:=y
 simp only [Xs,List.cons.injEq,V.i.injEq,V.b.injEq,V.f.injEq,V.str.injEq,V.sl.injEq,V.agg.injEq,V.cptr.injEq,true_and,and_true] at h
 simp_all,fun h => by rw [h]⟩
@[simp] theorem pT32_iff {x y : T32} : Xk x = Xk y ↔ x = y:=⟨fun h => by
 obtain ⟨x1,x2,x3,x4,x5⟩:=x
 obtain ⟨y1,y2,y3,y4,y5⟩:=y
 simp only [Xk,List.cons.injEq,V.i.injEq,V.b.injEq,V.f.injEq,V.str.injEq,V.sl.injEq,V.agg.injEq,V.cptr.injEq,true_and,and_true] at h
 simp_all,fun h => by rw [h]⟩
@[simp] theorem pT51_iff {x y : T51} : Up x = Up y ↔ x = y:=⟨fun h => by
 obtain ⟨x1,x2,x3⟩:=x
 obtain ⟨y1,y2,y3⟩:=y
 simp only [Up,List.cons.injEq,V.i.injEq,V.b.injEq,V.f.injEq,V.str.injEq,V.sl.injEq,V.agg.injEq,V.cptr.injEq,true_and,and_true] at h
 simp_all,fun h => by rw [h]⟩
@[simp] theorem pT204_iff {x y : T204} : Wm x = Wm y ↔ x = y:=⟨fun h => by
 obtain ⟨x1,x2,x3,x4⟩:=x
 obtain ⟨y1,y2,y3,y4⟩:=y
 simp only [Wm,List.cons.injEq,V.i.injEq,V.b.injEq,V.f.injEq,V.str.injEq,V.sl.injEq,V.agg.injEq,V.cptr.injEq,true_and,and_true] at h
 simp_all,fun h => by rw [h]⟩
@[simp] theorem pT149_iff {x y : T149} : Ya x = Ya y ↔ x = y:=⟨fun h => by
 obtain ⟨⟨x1,x2,x3,x4,x5,x6⟩,⟨x7,x8,x9,x10,x11,x12⟩,⟨x13,x14,x15,x16,x17,x18⟩⟩:=x
 obtain ⟨⟨y1,y2,y3,y4,y5,y6⟩,⟨y7,y8,y9,y10,y11,y12⟩,⟨y13,y14,y15,y16,y17,y18⟩⟩:=y
 simp only [Ya,List.cons.injEq,V.i.injEq,V.b.injEq,V.f.injEq,V.str.injEq,V.sl.injEq,V.agg.injEq,V.cptr.injEq,true_and,and_true] at h
 simp_all,fun h => by rw [h]⟩
@[simp] theorem pT130_iff {x y : T130} : Xb x = Xb y ↔ x = y:=⟨fun h => by
 obtain ⟨x1,x2,x3,x4⟩:=x
 obtain ⟨y1,y2,y3,y4⟩:=y
 simp only [Xb,List.cons.injEq,V.i.injEq,V.b.injEq,V.f.injEq,V.str.injEq,V.sl.injEq,V.agg.injEq,V.cptr.injEq,true_and,and_true] at h
 simp_all,fun h => by rw [h]⟩
@[simp] theorem pT148_iff {x y : T148} : Yt x = Yt y ↔ x = y:=⟨fun h => by
 obtain ⟨x1,x2,x3,x4,x5,x6⟩:=x
 obtain ⟨y1,y2,y3,y4,y5,y6⟩:=y
 simp only [Yt,List.cons.injEq,V.i.injEq,V.b.injEq,V.f.injEq,V.str.injEq,V.sl.injEq,V.agg.injEq,V.cptr.injEq,true_and,and_true] at h
 simp_all,fun h => by rw [h]⟩
@[simp] def Zw (pc : List T189) (xparts_ : List ByteArray) (xnames_ : List ByteArray) (xcode_ : List T189) (xbad_ : Bool) : VM:=[some (2,[[.nil,.nil]]),some (2,[[.ref 2 0 xnames_.length,.ref 3 0 pc.length]]),some (1,rows Yu xnames_),some (3,rows Yi pc),some (4,[[.sl 1 (rows Yu xparts_),.ref 2 0 xnames_.length,.ref 5 0 xcode_.length,.b xbad_]]),some (3,rows Yi xcode_)]
@[simp] def Zi (pc : List T189) (xline_ : ByteArray) (xat_ : Int) (xnames_ : List ByteArray) (xcode_ : List T189) (xbad_ : Bool) : VM:=[some (2,[[.nil,.nil]]),some (2,[[.ref 2 0 xnames_.length,.ref 3 0 pc.length]]),some (1,rows Yu xnames_),some (3,rows Yi pc),some (5,[[.str xline_,.i .i64 xat_,.ref 2 0 xnames_.length,.ref 5 0 xcode_.length,.b xbad_]]),some (3,rows Yi xcode_)]
end Go.Proofs.YtloepppmjppddaaGreatDoor
