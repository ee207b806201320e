/- The types of the seat. -/
import Derived.Test.YtbohajclnmmkhaaGreatDoorVxParse
import Derived.Test.YtbohajclnmmkhaaGreatDoorShelf
import Derived.Test.YtbohajclnmmkhaaGreatDoorProg
import Derived.KernelRfl
namespace Go.Proofs.YtbohajclnmmkhaaGreatDoor
open Go.RowKit Go.VL
set_option linter.unusedSimpArgs false
set_option linter.unusedVariables false
set_option maxHeartbeats 40000000
set_option maxRecDepth 100000
@[simp] theorem tk_2 : tk Tryz.prog 2 = .int .i64 := by kernel_rfl
@[simp] theorem co_2 : Tryz.prog.cellsOf 2 = 1 := by kernel_rfl
@[simp] theorem cz_2 : csz Tryz.prog 2 = 1 := by kernel_rfl
@[simp] theorem ag_2 : aggB Tryz.prog 2 = false := by kernel_rfl
@[simp] theorem ze_2 : zeroV Tryz.prog 2 = some [.int .i64 0] := by kernel_rfl
@[simp] theorem by_2 : Tryz.prog.bytesOf 2 = 8 := by kernel_rfl
@[simp] theorem tk_3 : tk Tryz.prog 3 = .int .i64 := by kernel_rfl
@[simp] theorem co_3 : Tryz.prog.cellsOf 3 = 1 := by kernel_rfl
@[simp] theorem cz_3 : csz Tryz.prog 3 = 1 := by kernel_rfl
@[simp] theorem ag_3 : aggB Tryz.prog 3 = false := by kernel_rfl
@[simp] theorem ze_3 : zeroV Tryz.prog 3 = some [.int .i64 0] := by kernel_rfl
@[simp] theorem by_3 : Tryz.prog.bytesOf 3 = 8 := by kernel_rfl
@[simp] theorem tk_4 : tk Tryz.prog 4 = .bool := by kernel_rfl
@[simp] theorem co_4 : Tryz.prog.cellsOf 4 = 1 := by kernel_rfl
@[simp] theorem cz_4 : csz Tryz.prog 4 = 1 := by kernel_rfl
@[simp] theorem ag_4 : aggB Tryz.prog 4 = false := by kernel_rfl
@[simp] theorem ze_4 : zeroV Tryz.prog 4 = some [.bool false] := by kernel_rfl
@[simp] theorem by_4 : Tryz.prog.bytesOf 4 = 1 := by kernel_rfl
@[simp] theorem tk_5 : tk Tryz.prog 5 = .int .u8 := by kernel_rfl
@[simp] theorem co_5 : Tryz.prog.cellsOf 5 = 1 := by kernel_rfl
@[simp] theorem cz_5 : csz Tryz.prog 5 = 1 := by kernel_rfl
@[simp] theorem ag_5 : aggB Tryz.prog 5 = false := by kernel_rfl
@[simp] theorem ze_5 : zeroV Tryz.prog 5 = some [.int .u8 0] := by kernel_rfl
@[simp] theorem by_5 : Tryz.prog.bytesOf 5 = 1 := by kernel_rfl
@[simp] theorem tk_9 : tk Tryz.prog 9 = .str := by kernel_rfl
@[simp] theorem co_9 : Tryz.prog.cellsOf 9 = 1 := by kernel_rfl
@[simp] theorem cz_9 : csz Tryz.prog 9 = 1 := by kernel_rfl
@[simp] theorem ag_9 : aggB Tryz.prog 9 = false := by kernel_rfl
@[simp] theorem ze_9 : zeroV Tryz.prog 9 = some [.string ByteArray.empty] := by kernel_rfl
@[simp] theorem by_9 : Tryz.prog.bytesOf 9 = 16 := by kernel_rfl
@[simp] theorem tk_22 : tk Tryz.prog 22 = .slice 43 := by kernel_rfl
@[simp] theorem co_22 : Tryz.prog.cellsOf 22 = 1 := by kernel_rfl
@[simp] theorem cz_22 : csz Tryz.prog 22 = 1 := by kernel_rfl
@[simp] theorem ag_22 : aggB Tryz.prog 22 = false := by kernel_rfl
@[simp] theorem ze_22 : zeroV Tryz.prog 22 = some [.slice none 0 0] := by kernel_rfl
@[simp] theorem by_22 : Tryz.prog.bytesOf 22 = 24 := by kernel_rfl
@[simp] theorem tk_23 : tk Tryz.prog 23 = .slice 48 := by kernel_rfl
@[simp] theorem co_23 : Tryz.prog.cellsOf 23 = 1 := by kernel_rfl
@[simp] theorem cz_23 : csz Tryz.prog 23 = 1 := by kernel_rfl
@[simp] theorem ag_23 : aggB Tryz.prog 23 = false := by kernel_rfl
@[simp] theorem ze_23 : zeroV Tryz.prog 23 = some [.slice none 0 0] := by kernel_rfl
@[simp] theorem by_23 : Tryz.prog.bytesOf 23 = 24 := by kernel_rfl
@[simp] theorem tk_24 : tk Tryz.prog 24 = .slice 50 := by kernel_rfl
@[simp] theorem co_24 : Tryz.prog.cellsOf 24 = 1 := by kernel_rfl
@[simp] theorem cz_24 : csz Tryz.prog 24 = 1 := by kernel_rfl
@[simp] theorem ag_24 : aggB Tryz.prog 24 = false := by kernel_rfl
@[simp] theorem ze_24 : zeroV Tryz.prog 24 = some [.slice none 0 0] := by kernel_rfl
@[simp] theorem by_24 : Tryz.prog.bytesOf 24 = 24 := by kernel_rfl
@[simp] theorem tk_26 : tk Tryz.prog 26 = .struct [(0, 1, false), (1, 1, false), (2, 1, false), (3, 1, false)] := by kernel_rfl
@[simp] theorem co_26 : Tryz.prog.cellsOf 26 = 4 := by kernel_rfl
@[simp] theorem cz_26 : csz Tryz.prog 26 = 4 := by kernel_rfl
@[simp] theorem ag_26 : aggB Tryz.prog 26 = true := by kernel_rfl
@[simp] theorem ze_26 : zeroV Tryz.prog 26 = some [.slice none 0 0, .slice none 0 0, .slice none 0 0, .slice none 0 0] := by kernel_rfl
@[simp] theorem by_26 : Tryz.prog.bytesOf 26 = 96 := by kernel_rfl
@[simp] theorem tk_32 : tk Tryz.prog 32 = .slice 9 := by kernel_rfl
@[simp] theorem co_32 : Tryz.prog.cellsOf 32 = 1 := by kernel_rfl
@[simp] theorem cz_32 : csz Tryz.prog 32 = 1 := by kernel_rfl
@[simp] theorem ag_32 : aggB Tryz.prog 32 = false := by kernel_rfl
@[simp] theorem ze_32 : zeroV Tryz.prog 32 = some [.slice none 0 0] := by kernel_rfl
@[simp] theorem by_32 : Tryz.prog.bytesOf 32 = 24 := by kernel_rfl
@[simp] theorem tk_35 : tk Tryz.prog 35 = .ptr 26 := by kernel_rfl
@[simp] theorem co_35 : Tryz.prog.cellsOf 35 = 1 := by kernel_rfl
@[simp] theorem cz_35 : csz Tryz.prog 35 = 1 := by kernel_rfl
@[simp] theorem ag_35 : aggB Tryz.prog 35 = false := by kernel_rfl
@[simp] theorem ze_35 : zeroV Tryz.prog 35 = some [.pointer none] := by kernel_rfl
@[simp] theorem by_35 : Tryz.prog.bytesOf 35 = 8 := by kernel_rfl
@[simp] theorem tk_40 : tk Tryz.prog 40 = .ptr 74 := by kernel_rfl
@[simp] theorem co_40 : Tryz.prog.cellsOf 40 = 1 := by kernel_rfl
@[simp] theorem cz_40 : csz Tryz.prog 40 = 1 := by kernel_rfl
@[simp] theorem ag_40 : aggB Tryz.prog 40 = false := by kernel_rfl
@[simp] theorem ze_40 : zeroV Tryz.prog 40 = some [.pointer none] := by kernel_rfl
@[simp] theorem by_40 : Tryz.prog.bytesOf 40 = 8 := by kernel_rfl
@[simp] theorem tk_43 : tk Tryz.prog 43 = .flt .f32 := by kernel_rfl
@[simp] theorem co_43 : Tryz.prog.cellsOf 43 = 1 := by kernel_rfl
@[simp] theorem cz_43 : csz Tryz.prog 43 = 1 := by kernel_rfl
@[simp] theorem ag_43 : aggB Tryz.prog 43 = false := by kernel_rfl
@[simp] theorem ze_43 : zeroV Tryz.prog 43 = some [.float .f32 0] := by kernel_rfl
@[simp] theorem by_43 : Tryz.prog.bytesOf 43 = 4 := by kernel_rfl
@[simp] theorem tk_46 : tk Tryz.prog 46 = .arr 4 43 := by kernel_rfl
@[simp] theorem co_46 : Tryz.prog.cellsOf 46 = 4 := by kernel_rfl
@[simp] theorem cz_46 : csz Tryz.prog 46 = 4 := by kernel_rfl
@[simp] theorem ag_46 : aggB Tryz.prog 46 = true := by kernel_rfl
@[simp] theorem ze_46 : zeroV Tryz.prog 46 = some [.float .f32 0, .float .f32 0, .float .f32 0, .float .f32 0] := by kernel_rfl
@[simp] theorem by_46 : Tryz.prog.bytesOf 46 = 16 := by kernel_rfl
@[simp] theorem tk_48 : tk Tryz.prog 48 = .struct [(0, 1, false), (1, 1, false), (2, 1, false), (3, 1, false), (4, 4, true)] := by kernel_rfl
@[simp] theorem co_48 : Tryz.prog.cellsOf 48 = 8 := by kernel_rfl
@[simp] theorem cz_48 : csz Tryz.prog 48 = 8 := by kernel_rfl
@[simp] theorem ag_48 : aggB Tryz.prog 48 = true := by kernel_rfl
@[simp] theorem ze_48 : zeroV Tryz.prog 48 = some [.int .i64 0, .int .i64 0, .float .f32 0, .float .f32 0, .float .f32 0, .float .f32 0, .float .f32 0, .float .f32 0] := by kernel_rfl
@[simp] theorem by_48 : Tryz.prog.bytesOf 48 = 40 := by kernel_rfl
@[simp] theorem tk_50 : tk Tryz.prog 50 = .struct [(0, 1, false), (1, 1, false), (2, 1, false), (3, 1, false)] := by kernel_rfl
@[simp] theorem co_50 : Tryz.prog.cellsOf 50 = 4 := by kernel_rfl
@[simp] theorem cz_50 : csz Tryz.prog 50 = 4 := by kernel_rfl
@[simp] theorem ag_50 : aggB Tryz.prog 50 = true := by kernel_rfl
@[simp] theorem ze_50 : zeroV Tryz.prog 50 = some [.int .i64 0, .int .i64 0, .float .f32 0, .float .f32 0] := by kernel_rfl
@[simp] theorem by_50 : Tryz.prog.bytesOf 50 = 24 := by kernel_rfl
@[simp] theorem tk_67 : tk Tryz.prog 67 = .ptr 48 := by kernel_rfl
@[simp] theorem co_67 : Tryz.prog.cellsOf 67 = 1 := by kernel_rfl
@[simp] theorem cz_67 : csz Tryz.prog 67 = 1 := by kernel_rfl
@[simp] theorem ag_67 : aggB Tryz.prog 67 = false := by kernel_rfl
@[simp] theorem ze_67 : zeroV Tryz.prog 67 = some [.pointer none] := by kernel_rfl
@[simp] theorem by_67 : Tryz.prog.bytesOf 67 = 8 := by kernel_rfl
@[simp] theorem tk_69 : tk Tryz.prog 69 = .ptr 50 := by kernel_rfl
@[simp] theorem co_69 : Tryz.prog.cellsOf 69 = 1 := by kernel_rfl
@[simp] theorem cz_69 : csz Tryz.prog 69 = 1 := by kernel_rfl
@[simp] theorem ag_69 : aggB Tryz.prog 69 = false := by kernel_rfl
@[simp] theorem ze_69 : zeroV Tryz.prog 69 = some [.pointer none] := by kernel_rfl
@[simp] theorem by_69 : Tryz.prog.bytesOf 69 = 8 := by kernel_rfl
@[simp] theorem tk_74 : tk Tryz.prog 74 = .struct [(0, 1, false), (1, 1, false)] := by kernel_rfl
@[simp] theorem co_74 : Tryz.prog.cellsOf 74 = 2 := by kernel_rfl
@[simp] theorem cz_74 : csz Tryz.prog 74 = 2 := by kernel_rfl
@[simp] theorem ag_74 : aggB Tryz.prog 74 = true := by kernel_rfl
@[simp] theorem ze_74 : zeroV Tryz.prog 74 = some [.slice none 0 0, .bool false] := by kernel_rfl
@[simp] theorem by_74 : Tryz.prog.bytesOf 74 = 32 := by kernel_rfl
@[simp] theorem tk_78 : tk Tryz.prog 78 = .iface := by kernel_rfl
@[simp] theorem co_78 : Tryz.prog.cellsOf 78 = 1 := by kernel_rfl
@[simp] theorem cz_78 : csz Tryz.prog 78 = 1 := by kernel_rfl
@[simp] theorem ag_78 : aggB Tryz.prog 78 = false := by kernel_rfl
@[simp] theorem ze_78 : zeroV Tryz.prog 78 = some [.nilIface] := by kernel_rfl
@[simp] theorem ifc_78 : ifaceB Tryz.prog 78 = true := by kernel_rfl
@[simp] theorem by_78 : Tryz.prog.bytesOf 78 = 16 := by kernel_rfl
@[simp] theorem tk_87 : tk Tryz.prog 87 = .flt .f64 := by kernel_rfl
@[simp] theorem co_87 : Tryz.prog.cellsOf 87 = 1 := by kernel_rfl
@[simp] theorem cz_87 : csz Tryz.prog 87 = 1 := by kernel_rfl
@[simp] theorem ag_87 : aggB Tryz.prog 87 = false := by kernel_rfl
@[simp] theorem ze_87 : zeroV Tryz.prog 87 = some [.float .f64 0] := by kernel_rfl
@[simp] theorem by_87 : Tryz.prog.bytesOf 87 = 8 := by kernel_rfl
@[simp] theorem tk_92 : tk Tryz.prog 92 = .int .u32 := by kernel_rfl
@[simp] theorem co_92 : Tryz.prog.cellsOf 92 = 1 := by kernel_rfl
@[simp] theorem cz_92 : csz Tryz.prog 92 = 1 := by kernel_rfl
@[simp] theorem ag_92 : aggB Tryz.prog 92 = false := by kernel_rfl
@[simp] theorem ze_92 : zeroV Tryz.prog 92 = some [.int .u32 0] := by kernel_rfl
@[simp] theorem by_92 : Tryz.prog.bytesOf 92 = 4 := by kernel_rfl
@[simp] theorem tk_94 : tk Tryz.prog 94 = .slice 5 := by kernel_rfl
@[simp] theorem co_94 : Tryz.prog.cellsOf 94 = 1 := by kernel_rfl
@[simp] theorem cz_94 : csz Tryz.prog 94 = 1 := by kernel_rfl
@[simp] theorem ag_94 : aggB Tryz.prog 94 = false := by kernel_rfl
@[simp] theorem ze_94 : zeroV Tryz.prog 94 = some [.slice none 0 0] := by kernel_rfl
@[simp] theorem by_94 : Tryz.prog.bytesOf 94 = 24 := by kernel_rfl
@[simp] theorem tk_103 : tk Tryz.prog 103 = .ptr 105 := by kernel_rfl
@[simp] theorem co_103 : Tryz.prog.cellsOf 103 = 1 := by kernel_rfl
@[simp] theorem cz_103 : csz Tryz.prog 103 = 1 := by kernel_rfl
@[simp] theorem ag_103 : aggB Tryz.prog 103 = false := by kernel_rfl
@[simp] theorem ze_103 : zeroV Tryz.prog 103 = some [.pointer none] := by kernel_rfl
@[simp] theorem by_103 : Tryz.prog.bytesOf 103 = 8 := by kernel_rfl
@[simp] theorem tk_105 : tk Tryz.prog 105 = .struct [(0, 1, false), (1, 1, false)] := by kernel_rfl
@[simp] theorem co_105 : Tryz.prog.cellsOf 105 = 2 := by kernel_rfl
@[simp] theorem cz_105 : csz Tryz.prog 105 = 2 := by kernel_rfl
@[simp] theorem ag_105 : aggB Tryz.prog 105 = true := by kernel_rfl
@[simp] theorem ze_105 : zeroV Tryz.prog 105 = some [.pointer none, .slice none 0 0] := by kernel_rfl
@[simp] theorem by_105 : Tryz.prog.bytesOf 105 = 32 := by kernel_rfl
@[simp] theorem tk_114 : tk Tryz.prog 114 = .int .u64 := by kernel_rfl
@[simp] theorem co_114 : Tryz.prog.cellsOf 114 = 1 := by kernel_rfl
@[simp] theorem cz_114 : csz Tryz.prog 114 = 1 := by kernel_rfl
@[simp] theorem ag_114 : aggB Tryz.prog 114 = false := by kernel_rfl
@[simp] theorem ze_114 : zeroV Tryz.prog 114 = some [.int .u64 0] := by kernel_rfl
@[simp] theorem by_114 : Tryz.prog.bytesOf 114 = 8 := by kernel_rfl
theorem mixed : Tryz.prog.follows .mixedOrders = true := by kernel_rfl
@[simp] def cs_ (x : ByteArray) : List V := [.str x]
instance : Pln cs_ := ⟨fun x => by simp⟩
@[simp] theorem cs__len {x : ByteArray} : (cs_ x).length = 1 := rfl
@[simp] theorem cs__set {xs : List ByteArray} {i : Nat} {a : ByteArray} : (rows cs_ xs).set i [.str a] = rows cs_ (xs.set i a) := rows_set (c := cs_) (x := a)
@[simp] theorem cs__snoc {xs : List ByteArray} {a : ByteArray} : rows cs_ xs ++ [[.str a]] = rows cs_ (xs ++ [a]) := rows_snoc (c := cs_) (x := a)
@[simp] theorem cs__rep {n : Nat} {a : ByteArray} : List.replicate n [.str a] = rows cs_ (List.replicate n a) := rows_rep (c := cs_) (x := a)
theorem cs__inj (x y : ByteArray) (h : cs_ x = cs_ y) : x = y := by
  simp only [cs_, List.cons.injEq, V.i.injEq, V.b.injEq, V.f.injEq, V.str.injEq, V.sl.injEq, V.own.injEq, true_and, and_true] at h
  simp_all
@[simp] def cf_f32 (x : F32) : List V := [.f .f32 x]
instance : Pln cf_f32 := ⟨fun x => by simp⟩
@[simp] theorem cf_f32_len {x : F32} : (cf_f32 x).length = 1 := rfl
@[simp] theorem cf_f32_set {xs : List F32} {i : Nat} {a : F32} : (rows cf_f32 xs).set i [.f .f32 a] = rows cf_f32 (xs.set i a) := rows_set (c := cf_f32) (x := a)
@[simp] theorem cf_f32_snoc {xs : List F32} {a : F32} : rows cf_f32 xs ++ [[.f .f32 a]] = rows cf_f32 (xs ++ [a]) := rows_snoc (c := cf_f32) (x := a)
@[simp] theorem cf_f32_rep {n : Nat} {a : F32} : List.replicate n [.f .f32 a] = rows cf_f32 (List.replicate n a) := rows_rep (c := cf_f32) (x := a)
theorem cf_f32_inj (x y : F32) (h : cf_f32 x = cf_f32 y) : x = y := by
  simp only [cf_f32, List.cons.injEq, V.i.injEq, V.b.injEq, V.f.injEq, V.str.injEq, V.sl.injEq, V.own.injEq, true_and, and_true] at h
  simp_all
structure T46 where
  a0_ : F32
  a1_ : F32
  a2_ : F32
  a3_ : F32
structure T47 where
  a_ : Int
  b_ : Int
  lead_ : F32
  store_ : F32
  heat_ : T46
structure T49 where
  a_ : Int
  b_ : Int
  lead_ : F32
  sun_ : F32
structure T25 where
  heat_ : List F32
  store_ : List F32
  walls_ : List T47
  panes_ : List T49
@[simp] def cT47 (x : T47) : List V := [.i .i64 x.a_, .i .i64 x.b_, .f .f32 x.lead_, .f .f32 x.store_, .f .f32 x.heat_.a0_, .f .f32 x.heat_.a1_, .f .f32 x.heat_.a2_, .f .f32 x.heat_.a3_]
instance : Pln cT47 := ⟨fun x => by simp⟩
@[simp] theorem cT47_len {x : T47} : (cT47 x).length = 8 := rfl
@[simp] theorem cT47_set {xs : List T47} {i : Nat} {a0 : Int} {a1 : Int} {a2 : F32} {a3 : F32} {a4 : F32} {a5 : F32} {a6 : F32} {a7 : F32} : (rows cT47 xs).set i [.i .i64 a0, .i .i64 a1, .f .f32 a2, .f .f32 a3, .f .f32 a4, .f .f32 a5, .f .f32 a6, .f .f32 a7] = rows cT47 (xs.set i (⟨a0, a1, a2, a3, (⟨a4, a5, a6, a7⟩ : T46)⟩ : T47)) := rows_set (c := cT47) (x := (⟨a0, a1, a2, a3, (⟨a4, a5, a6, a7⟩ : T46)⟩ : T47))
@[simp] theorem cT47_snoc {xs : List T47} {a0 : Int} {a1 : Int} {a2 : F32} {a3 : F32} {a4 : F32} {a5 : F32} {a6 : F32} {a7 : F32} : rows cT47 xs ++ [[.i .i64 a0, .i .i64 a1, .f .f32 a2, .f .f32 a3, .f .f32 a4, .f .f32 a5, .f .f32 a6, .f .f32 a7]] = rows cT47 (xs ++ [(⟨a0, a1, a2, a3, (⟨a4, a5, a6, a7⟩ : T46)⟩ : T47)]) := rows_snoc (c := cT47) (x := (⟨a0, a1, a2, a3, (⟨a4, a5, a6, a7⟩ : T46)⟩ : T47))
@[simp] theorem cT47_rep {n : Nat} {a0 : Int} {a1 : Int} {a2 : F32} {a3 : F32} {a4 : F32} {a5 : F32} {a6 : F32} {a7 : F32} : List.replicate n [.i .i64 a0, .i .i64 a1, .f .f32 a2, .f .f32 a3, .f .f32 a4, .f .f32 a5, .f .f32 a6, .f .f32 a7] = rows cT47 (List.replicate n (⟨a0, a1, a2, a3, (⟨a4, a5, a6, a7⟩ : T46)⟩ : T47)) := rows_rep (c := cT47) (x := (⟨a0, a1, a2, a3, (⟨a4, a5, a6, a7⟩ : T46)⟩ : T47))
theorem cT47_inj (x y : T47) (h : cT47 x = cT47 y) : x = y := by
  obtain ⟨i15, i16, i17, i18, ⟨i19, i20, i21, i22⟩⟩ := x
  obtain ⟨i23, i24, i25, i26, ⟨i27, i28, i29, i30⟩⟩ := y
  simp only [cT47, List.cons.injEq, V.i.injEq, V.b.injEq, V.f.injEq, V.str.injEq, V.sl.injEq, V.own.injEq, true_and, and_true] at h
  simp_all
@[simp] def cT49 (x : T49) : List V := [.i .i64 x.a_, .i .i64 x.b_, .f .f32 x.lead_, .f .f32 x.sun_]
instance : Pln cT49 := ⟨fun x => by simp⟩
@[simp] theorem cT49_len {x : T49} : (cT49 x).length = 4 := rfl
@[simp] theorem cT49_set {xs : List T49} {i : Nat} {a0 : Int} {a1 : Int} {a2 : F32} {a3 : F32} : (rows cT49 xs).set i [.i .i64 a0, .i .i64 a1, .f .f32 a2, .f .f32 a3] = rows cT49 (xs.set i (⟨a0, a1, a2, a3⟩ : T49)) := rows_set (c := cT49) (x := (⟨a0, a1, a2, a3⟩ : T49))
@[simp] theorem cT49_snoc {xs : List T49} {a0 : Int} {a1 : Int} {a2 : F32} {a3 : F32} : rows cT49 xs ++ [[.i .i64 a0, .i .i64 a1, .f .f32 a2, .f .f32 a3]] = rows cT49 (xs ++ [(⟨a0, a1, a2, a3⟩ : T49)]) := rows_snoc (c := cT49) (x := (⟨a0, a1, a2, a3⟩ : T49))
@[simp] theorem cT49_rep {n : Nat} {a0 : Int} {a1 : Int} {a2 : F32} {a3 : F32} : List.replicate n [.i .i64 a0, .i .i64 a1, .f .f32 a2, .f .f32 a3] = rows cT49 (List.replicate n (⟨a0, a1, a2, a3⟩ : T49)) := rows_rep (c := cT49) (x := (⟨a0, a1, a2, a3⟩ : T49))
theorem cT49_inj (x y : T49) (h : cT49 x = cT49 y) : x = y := by
  obtain ⟨i31, i32, i33, i34⟩ := x
  obtain ⟨i35, i36, i37, i38⟩ := y
  simp only [cT49, List.cons.injEq, V.i.injEq, V.b.injEq, V.f.injEq, V.str.injEq, V.sl.injEq, V.own.injEq, true_and, and_true] at h
  simp_all
def pT25 (x : T25) : List V := [.sl 1 (rows cf_f32 x.heat_), .sl 1 (rows cf_f32 x.store_), .sl 8 (rows cT47 x.walls_), .sl 4 (rows cT49 x.panes_)]
section
variable {x : T25}
@[simp] theorem pT25_len : (pT25 x).length = 4 := rfl
@[simp] theorem pT25_0 : (pT25 x)[0]? = some (.sl 1 (rows cf_f32 x.heat_)) := rfl
@[simp] theorem pT25_g0 (h : 0 < (pT25 x).length) : (pT25 x)[0] = .sl 1 (rows cf_f32 x.heat_) := rfl
@[simp] theorem pT25_1 : (pT25 x)[1]? = some (.sl 1 (rows cf_f32 x.store_)) := rfl
@[simp] theorem pT25_g1 (h : 1 < (pT25 x).length) : (pT25 x)[1] = .sl 1 (rows cf_f32 x.store_) := rfl
@[simp] theorem pT25_2 : (pT25 x)[2]? = some (.sl 8 (rows cT47 x.walls_)) := rfl
@[simp] theorem pT25_g2 (h : 2 < (pT25 x).length) : (pT25 x)[2] = .sl 8 (rows cT47 x.walls_) := rfl
@[simp] theorem pT25_3 : (pT25 x)[3]? = some (.sl 4 (rows cT49 x.panes_)) := rfl
@[simp] theorem pT25_g3 (h : 3 < (pT25 x).length) : (pT25 x)[3] = .sl 4 (rows cT49 x.panes_) := rfl
@[simp] theorem pT25_un1 : (pT25 x).map un1 = pT25 x := rfl
@[simp] theorem pT25_snap : snapL (pT25 x) = true := by simp [pT25]
@[simp] theorem pT25_cell : (pT25 x).all cellV = true := by simp [pT25]
@[simp high] theorem pT25_vc : vcells (.agg (pT25 x)) = some (pT25 x) := by simp [pT25]
@[simp] theorem pT25_noB {b : Nat} : (pT25 x).all (noBV b) = true := by simp [pT25]
@[simp] theorem pT25_bnd {k : Nat} : (pT25 x).all (bndV k) = true := by simp [pT25, bndV]
@[simp] theorem pT25_re {m : VM} : vreL1 m (pT25 x) = some (pT25 x) := by simp [pT25]
end
def pT47 (x : T47) : List V := [.i .i64 x.a_, .i .i64 x.b_, .f .f32 x.lead_, .f .f32 x.store_, .f .f32 x.heat_.a0_, .f .f32 x.heat_.a1_, .f .f32 x.heat_.a2_, .f .f32 x.heat_.a3_]
section
variable {x : T47}
@[simp] theorem pT47_len : (pT47 x).length = 8 := rfl
@[simp] theorem pT47_0 : (pT47 x)[0]? = some (.i .i64 x.a_) := rfl
@[simp] theorem pT47_g0 (h : 0 < (pT47 x).length) : (pT47 x)[0] = .i .i64 x.a_ := rfl
@[simp] theorem pT47_1 : (pT47 x)[1]? = some (.i .i64 x.b_) := rfl
@[simp] theorem pT47_g1 (h : 1 < (pT47 x).length) : (pT47 x)[1] = .i .i64 x.b_ := rfl
@[simp] theorem pT47_2 : (pT47 x)[2]? = some (.f .f32 x.lead_) := rfl
@[simp] theorem pT47_g2 (h : 2 < (pT47 x).length) : (pT47 x)[2] = .f .f32 x.lead_ := rfl
@[simp] theorem pT47_3 : (pT47 x)[3]? = some (.f .f32 x.store_) := rfl
@[simp] theorem pT47_g3 (h : 3 < (pT47 x).length) : (pT47 x)[3] = .f .f32 x.store_ := rfl
@[simp] theorem pT47_4 : (pT47 x)[4]? = some (.f .f32 x.heat_.a0_) := rfl
@[simp] theorem pT47_g4 (h : 4 < (pT47 x).length) : (pT47 x)[4] = .f .f32 x.heat_.a0_ := rfl
@[simp] theorem pT47_5 : (pT47 x)[5]? = some (.f .f32 x.heat_.a1_) := rfl
@[simp] theorem pT47_g5 (h : 5 < (pT47 x).length) : (pT47 x)[5] = .f .f32 x.heat_.a1_ := rfl
@[simp] theorem pT47_6 : (pT47 x)[6]? = some (.f .f32 x.heat_.a2_) := rfl
@[simp] theorem pT47_g6 (h : 6 < (pT47 x).length) : (pT47 x)[6] = .f .f32 x.heat_.a2_ := rfl
@[simp] theorem pT47_7 : (pT47 x)[7]? = some (.f .f32 x.heat_.a3_) := rfl
@[simp] theorem pT47_g7 (h : 7 < (pT47 x).length) : (pT47 x)[7] = .f .f32 x.heat_.a3_ := rfl
@[simp] theorem pT47_d4 : (pT47 x).drop 4 = [.f .f32 x.heat_.a0_, .f .f32 x.heat_.a1_, .f .f32 x.heat_.a2_, .f .f32 x.heat_.a3_] := rfl
@[simp] theorem pT47_s4_4 : ((pT47 x).drop 4).take 4 = [.f .f32 x.heat_.a0_, .f .f32 x.heat_.a1_, .f .f32 x.heat_.a2_, .f .f32 x.heat_.a3_] := rfl
@[simp] theorem pT47_c4 : chunks 1 4 ((pT47 x).drop 4) = rows cf_f32 [x.heat_.a0_, x.heat_.a1_, x.heat_.a2_, x.heat_.a3_] := rfl
@[simp] theorem pT47_un1 : (pT47 x).map un1 = pT47 x := rfl
@[simp] theorem pT47_snap : snapL (pT47 x) = true := by simp [pT47]
@[simp] theorem pT47_cell : (pT47 x).all cellV = true := by simp [pT47]
@[simp high] theorem pT47_vc : vcells (.agg (pT47 x)) = some (pT47 x) := by simp [pT47]
@[simp] theorem pT47_noB {b : Nat} : (pT47 x).all (noBV b) = true := by simp [pT47]
@[simp] theorem pT47_bnd {k : Nat} : (pT47 x).all (bndV k) = true := by simp [pT47, bndV]
@[simp] theorem pT47_re {m : VM} : vreL1 m (pT47 x) = some (pT47 x) := by simp [pT47]
end
def pT49 (x : T49) : List V := [.i .i64 x.a_, .i .i64 x.b_, .f .f32 x.lead_, .f .f32 x.sun_]
section
variable {x : T49}
@[simp] theorem pT49_len : (pT49 x).length = 4 := rfl
@[simp] theorem pT49_0 : (pT49 x)[0]? = some (.i .i64 x.a_) := rfl
@[simp] theorem pT49_g0 (h : 0 < (pT49 x).length) : (pT49 x)[0] = .i .i64 x.a_ := rfl
@[simp] theorem pT49_1 : (pT49 x)[1]? = some (.i .i64 x.b_) := rfl
@[simp] theorem pT49_g1 (h : 1 < (pT49 x).length) : (pT49 x)[1] = .i .i64 x.b_ := rfl
@[simp] theorem pT49_2 : (pT49 x)[2]? = some (.f .f32 x.lead_) := rfl
@[simp] theorem pT49_g2 (h : 2 < (pT49 x).length) : (pT49 x)[2] = .f .f32 x.lead_ := rfl
@[simp] theorem pT49_3 : (pT49 x)[3]? = some (.f .f32 x.sun_) := rfl
@[simp] theorem pT49_g3 (h : 3 < (pT49 x).length) : (pT49 x)[3] = .f .f32 x.sun_ := rfl
@[simp] theorem pT49_un1 : (pT49 x).map un1 = pT49 x := rfl
@[simp] theorem pT49_snap : snapL (pT49 x) = true := by simp [pT49]
@[simp] theorem pT49_cell : (pT49 x).all cellV = true := by simp [pT49]
@[simp high] theorem pT49_vc : vcells (.agg (pT49 x)) = some (pT49 x) := by simp [pT49]
@[simp] theorem pT49_noB {b : Nat} : (pT49 x).all (noBV b) = true := by simp [pT49]
@[simp] theorem pT49_bnd {k : Nat} : (pT49 x).all (bndV k) = true := by simp [pT49, bndV]
@[simp] theorem pT49_re {m : VM} : vreL1 m (pT49 x) = some (pT49 x) := by simp [pT49]
end
@[simp] def ci_u8 (x : Int) : List V := [.i .u8 x]
@[simp] theorem ci_u8_nums {xs : List Int} : numsOf (rows ci_u8 xs) = some xs := by
  induction xs with
  | nil => rfl
  | cons x xs ih => simp [numsOf, numOf, ih]
instance : Pln ci_u8 := ⟨fun x => by simp⟩
@[simp] theorem ci_u8_len {x : Int} : (ci_u8 x).length = 1 := rfl
@[simp] theorem ci_u8_set {xs : List Int} {i : Nat} {a : Int} : (rows ci_u8 xs).set i [.i .u8 a] = rows ci_u8 (xs.set i a) := rows_set (c := ci_u8) (x := a)
@[simp] theorem ci_u8_snoc {xs : List Int} {a : Int} : rows ci_u8 xs ++ [[.i .u8 a]] = rows ci_u8 (xs ++ [a]) := rows_snoc (c := ci_u8) (x := a)
@[simp] theorem ci_u8_rep {n : Nat} {a : Int} : List.replicate n [.i .u8 a] = rows ci_u8 (List.replicate n a) := rows_rep (c := ci_u8) (x := a)
theorem ci_u8_inj (x y : Int) (h : ci_u8 x = ci_u8 y) : x = y := by
  simp only [ci_u8, List.cons.injEq, V.i.injEq, V.b.injEq, V.f.injEq, V.str.injEq, V.sl.injEq, V.own.injEq, true_and, and_true] at h
  simp_all
structure T73 where
  list_ : List ByteArray
  bad_ : Bool
def pT73 (x : T73) : List V := [.sl 1 (rows cs_ x.list_), .b x.bad_]
section
variable {x : T73}
@[simp] theorem pT73_len : (pT73 x).length = 2 := rfl
@[simp] theorem pT73_0 : (pT73 x)[0]? = some (.sl 1 (rows cs_ x.list_)) := rfl
@[simp] theorem pT73_g0 (h : 0 < (pT73 x).length) : (pT73 x)[0] = .sl 1 (rows cs_ x.list_) := rfl
@[simp] theorem pT73_1 : (pT73 x)[1]? = some (.b x.bad_) := rfl
@[simp] theorem pT73_g1 (h : 1 < (pT73 x).length) : (pT73 x)[1] = .b x.bad_ := rfl
@[simp] theorem pT73_un1 : (pT73 x).map un1 = pT73 x := rfl
@[simp] theorem pT73_snap : snapL (pT73 x) = true := by simp [pT73]
@[simp] theorem pT73_cell : (pT73 x).all cellV = true := by simp [pT73]
@[simp high] theorem pT73_vc : vcells (.agg (pT73 x)) = some (pT73 x) := by simp [pT73]
@[simp] theorem pT73_noB {b : Nat} : (pT73 x).all (noBV b) = true := by simp [pT73]
@[simp] theorem pT73_bnd {k : Nat} : (pT73 x).all (bndV k) = true := by simp [pT73, bndV]
@[simp] theorem pT73_re {m : VM} : vreL1 m (pT73 x) = some (pT73 x) := by simp [pT73]
end
@[simp] def cT25 (x : T25) : List V := [.sl 1 (rows cf_f32 x.heat_), .sl 1 (rows cf_f32 x.store_), .sl 8 (rows cT47 x.walls_), .sl 4 (rows cT49 x.panes_)]
instance : Snp cT25 := ⟨fun x => by simp, fun x => by simp⟩
@[simp] theorem cT25_len {x : T25} : (cT25 x).length = 4 := rfl
@[simp] theorem cT25_set {xs : List T25} {i : Nat} {a0 : List F32} {a1 : List F32} {a2 : List T47} {a3 : List T49} : (rows cT25 xs).set i [.sl 1 (rows cf_f32 a0), .sl 1 (rows cf_f32 a1), .sl 8 (rows cT47 a2), .sl 4 (rows cT49 a3)] = rows cT25 (xs.set i (⟨a0, a1, a2, a3⟩ : T25)) := rows_set (c := cT25) (x := (⟨a0, a1, a2, a3⟩ : T25))
@[simp] theorem cT25_snoc {xs : List T25} {a0 : List F32} {a1 : List F32} {a2 : List T47} {a3 : List T49} : rows cT25 xs ++ [[.sl 1 (rows cf_f32 a0), .sl 1 (rows cf_f32 a1), .sl 8 (rows cT47 a2), .sl 4 (rows cT49 a3)]] = rows cT25 (xs ++ [(⟨a0, a1, a2, a3⟩ : T25)]) := rows_snoc (c := cT25) (x := (⟨a0, a1, a2, a3⟩ : T25))
@[simp] theorem cT25_rep {n : Nat} {a0 : List F32} {a1 : List F32} {a2 : List T47} {a3 : List T49} : List.replicate n [.sl 1 (rows cf_f32 a0), .sl 1 (rows cf_f32 a1), .sl 8 (rows cT47 a2), .sl 4 (rows cT49 a3)] = rows cT25 (List.replicate n (⟨a0, a1, a2, a3⟩ : T25)) := rows_rep (c := cT25) (x := (⟨a0, a1, a2, a3⟩ : T25))
theorem cT25_inj (x y : T25) (h : cT25 x = cT25 y) : x = y := by
  obtain ⟨i187, i188, i189, i190⟩ := x
  obtain ⟨i191, i192, i193, i194⟩ := y
  simp only [cT25, List.cons.injEq, V.i.injEq, V.b.injEq, V.f.injEq, V.str.injEq, V.sl.injEq, V.own.injEq, true_and, and_true] at h
  simp_all [ri cT47_inj, ri cT49_inj, ri cf_f32_inj]
def pT46 (x : T46) : List V := [.f .f32 x.a0_, .f .f32 x.a1_, .f .f32 x.a2_, .f .f32 x.a3_]
section
variable {x : T46}
@[simp] theorem pT46_len : (pT46 x).length = 4 := rfl
@[simp] theorem pT46_0 : (pT46 x)[0]? = some (.f .f32 x.a0_) := rfl
@[simp] theorem pT46_g0 (h : 0 < (pT46 x).length) : (pT46 x)[0] = .f .f32 x.a0_ := rfl
@[simp] theorem pT46_1 : (pT46 x)[1]? = some (.f .f32 x.a1_) := rfl
@[simp] theorem pT46_g1 (h : 1 < (pT46 x).length) : (pT46 x)[1] = .f .f32 x.a1_ := rfl
@[simp] theorem pT46_2 : (pT46 x)[2]? = some (.f .f32 x.a2_) := rfl
@[simp] theorem pT46_g2 (h : 2 < (pT46 x).length) : (pT46 x)[2] = .f .f32 x.a2_ := rfl
@[simp] theorem pT46_3 : (pT46 x)[3]? = some (.f .f32 x.a3_) := rfl
@[simp] theorem pT46_g3 (h : 3 < (pT46 x).length) : (pT46 x)[3] = .f .f32 x.a3_ := rfl
@[simp] theorem pT46_c0 : chunks 1 4 ((pT46 x).drop 0) = rows cf_f32 [x.a0_, x.a1_, x.a2_, x.a3_] := rfl
@[simp] theorem pT46_c : chunks 1 4 (pT46 x) = rows cf_f32 [x.a0_, x.a1_, x.a2_, x.a3_] := rfl
@[simp] theorem pT46_un1 : (pT46 x).map un1 = pT46 x := rfl
@[simp] theorem pT46_snap : snapL (pT46 x) = true := by simp [pT46]
@[simp] theorem pT46_cell : (pT46 x).all cellV = true := by simp [pT46]
@[simp high] theorem pT46_vc : vcells (.agg (pT46 x)) = some (pT46 x) := by simp [pT46]
@[simp] theorem pT46_noB {b : Nat} : (pT46 x).all (noBV b) = true := by simp [pT46]
@[simp] theorem pT46_bnd {k : Nat} : (pT46 x).all (bndV k) = true := by simp [pT46, bndV]
@[simp] theorem pT46_re {m : VM} : vreL1 m (pT46 x) = some (pT46 x) := by simp [pT46]
end
@[simp] def cT46 (x : T46) : List V := [.f .f32 x.a0_, .f .f32 x.a1_, .f .f32 x.a2_, .f .f32 x.a3_]
instance : Pln cT46 := ⟨fun x => by simp⟩
@[simp] theorem cT46_len {x : T46} : (cT46 x).length = 4 := rfl
@[simp] theorem cT46_set {xs : List T46} {i : Nat} {a0 : F32} {a1 : F32} {a2 : F32} {a3 : F32} : (rows cT46 xs).set i [.f .f32 a0, .f .f32 a1, .f .f32 a2, .f .f32 a3] = rows cT46 (xs.set i (⟨a0, a1, a2, a3⟩ : T46)) := rows_set (c := cT46) (x := (⟨a0, a1, a2, a3⟩ : T46))
@[simp] theorem cT46_snoc {xs : List T46} {a0 : F32} {a1 : F32} {a2 : F32} {a3 : F32} : rows cT46 xs ++ [[.f .f32 a0, .f .f32 a1, .f .f32 a2, .f .f32 a3]] = rows cT46 (xs ++ [(⟨a0, a1, a2, a3⟩ : T46)]) := rows_snoc (c := cT46) (x := (⟨a0, a1, a2, a3⟩ : T46))
@[simp] theorem cT46_rep {n : Nat} {a0 : F32} {a1 : F32} {a2 : F32} {a3 : F32} : List.replicate n [.f .f32 a0, .f .f32 a1, .f .f32 a2, .f .f32 a3] = rows cT46 (List.replicate n (⟨a0, a1, a2, a3⟩ : T46)) := rows_rep (c := cT46) (x := (⟨a0, a1, a2, a3⟩ : T46))
theorem cT46_inj (x y : T46) (h : cT46 x = cT46 y) : x = y := by
  obtain ⟨i231, i232, i233, i234⟩ := x
  obtain ⟨i235, i236, i237, i238⟩ := y
  simp only [cT46, List.cons.injEq, V.i.injEq, V.b.injEq, V.f.injEq, V.str.injEq, V.sl.injEq, V.own.injEq, true_and, and_true] at h
  simp_all
theorem okx68 : TellsX Tryz.prog 68 FXbits32 := TellsX.of (e := Extern.MathFloatBits.float32bits) Tryz.func68 (by kernel_rfl) (by kernel_rfl) (by kernel_rfl) (by kernel_rfl) (xbits32)
theorem okx64 : TellsX Tryz.prog 64 FXof32 := TellsX.of (e := Extern.MathFloatBits.float32frombits) Tryz.func64 (by kernel_rfl) (by kernel_rfl) (by kernel_rfl) (by kernel_rfl) (xof32)
theorem okx117 : TellsX Tryz.prog 117 FXof64 := TellsX.of (e := Extern.MathFloatBits.float64frombits) Tryz.func117 (by kernel_rfl) (by kernel_rfl) (by kernel_rfl) (by kernel_rfl) (xof64)
theorem okx118 : TellsX Tryz.prog 118 FXbits64 := TellsX.of (e := Extern.MathFloatBits.float64bits) Tryz.func118 (by kernel_rfl) (by kernel_rfl) (by kernel_rfl) (by kernel_rfl) (xbits64)
end Go.Proofs.YtbohajclnmmkhaaGreatDoor
