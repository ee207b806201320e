/- The types of the seat. -/
import Derived.Test.YtaajogkciipnjaaDoorVxLib
import Derived.Test.YtaajogkciipnjaaDoorShelf
import Derived.Test.YtaajogkciipnjaaDoorProg
import Derived.KernelRfl
namespace Go.Proofs.YtaajogkciipnjaaDoor
open Go.RowKit Go.VL
set_option linter.unusedSimpArgs false
set_option linter.unusedVariables false
set_option maxHeartbeats 40000000
set_option maxRecDepth 100000
@[simp] theorem tk_2 : tk Tryd.prog 2 = .int .i64 := by kernel_rfl
@[simp] theorem co_2 : Tryd.prog.cellsOf 2 = 1 := by kernel_rfl
@[simp] theorem cz_2 : csz Tryd.prog 2 = 1 := by kernel_rfl
@[simp] theorem ag_2 : aggB Tryd.prog 2 = false := by kernel_rfl
@[simp] theorem ze_2 : zeroV Tryd.prog 2 = some [.int .i64 0] := by kernel_rfl
@[simp] theorem by_2 : Tryd.prog.bytesOf 2 = 8 := by kernel_rfl
@[simp] theorem tk_3 : tk Tryd.prog 3 = .int .i64 := by kernel_rfl
@[simp] theorem co_3 : Tryd.prog.cellsOf 3 = 1 := by kernel_rfl
@[simp] theorem cz_3 : csz Tryd.prog 3 = 1 := by kernel_rfl
@[simp] theorem ag_3 : aggB Tryd.prog 3 = false := by kernel_rfl
@[simp] theorem ze_3 : zeroV Tryd.prog 3 = some [.int .i64 0] := by kernel_rfl
@[simp] theorem by_3 : Tryd.prog.bytesOf 3 = 8 := by kernel_rfl
@[simp] theorem tk_4 : tk Tryd.prog 4 = .bool := by kernel_rfl
@[simp] theorem co_4 : Tryd.prog.cellsOf 4 = 1 := by kernel_rfl
@[simp] theorem cz_4 : csz Tryd.prog 4 = 1 := by kernel_rfl
@[simp] theorem ag_4 : aggB Tryd.prog 4 = false := by kernel_rfl
@[simp] theorem ze_4 : zeroV Tryd.prog 4 = some [.bool false] := by kernel_rfl
@[simp] theorem by_4 : Tryd.prog.bytesOf 4 = 1 := by kernel_rfl
@[simp] theorem tk_5 : tk Tryd.prog 5 = .int .u8 := by kernel_rfl
@[simp] theorem co_5 : Tryd.prog.cellsOf 5 = 1 := by kernel_rfl
@[simp] theorem cz_5 : csz Tryd.prog 5 = 1 := by kernel_rfl
@[simp] theorem ag_5 : aggB Tryd.prog 5 = false := by kernel_rfl
@[simp] theorem ze_5 : zeroV Tryd.prog 5 = some [.int .u8 0] := by kernel_rfl
@[simp] theorem by_5 : Tryd.prog.bytesOf 5 = 1 := by kernel_rfl
@[simp] theorem tk_9 : tk Tryd.prog 9 = .str := by kernel_rfl
@[simp] theorem co_9 : Tryd.prog.cellsOf 9 = 1 := by kernel_rfl
@[simp] theorem cz_9 : csz Tryd.prog 9 = 1 := by kernel_rfl
@[simp] theorem ag_9 : aggB Tryd.prog 9 = false := by kernel_rfl
@[simp] theorem ze_9 : zeroV Tryd.prog 9 = some [.string ByteArray.empty] := by kernel_rfl
@[simp] theorem by_9 : Tryd.prog.bytesOf 9 = 16 := by kernel_rfl
@[simp] theorem tk_23 : tk Tryd.prog 23 = .struct [(0, 1, false), (1, 1, false), (2, 1, false)] := by kernel_rfl
@[simp] theorem co_23 : Tryd.prog.cellsOf 23 = 3 := by kernel_rfl
@[simp] theorem cz_23 : csz Tryd.prog 23 = 3 := by kernel_rfl
@[simp] theorem ag_23 : aggB Tryd.prog 23 = true := by kernel_rfl
@[simp] theorem ze_23 : zeroV Tryd.prog 23 = some [.int .i64 0, .int .i64 0, .int .i64 0] := by kernel_rfl
@[simp] theorem aeq_23 : aeqOk Tryd.prog 23 3 = true := by kernel_rfl
@[simp] theorem by_23 : Tryd.prog.bytesOf 23 = 24 := by kernel_rfl
@[simp] theorem tk_25 : tk Tryd.prog 25 = .struct [(0, 1, false), (1, 1, false), (2, 1, false)] := by kernel_rfl
@[simp] theorem co_25 : Tryd.prog.cellsOf 25 = 3 := by kernel_rfl
@[simp] theorem cz_25 : csz Tryd.prog 25 = 3 := by kernel_rfl
@[simp] theorem ag_25 : aggB Tryd.prog 25 = true := by kernel_rfl
@[simp] theorem ze_25 : zeroV Tryd.prog 25 = some [.int .i64 0, .int .i64 0, .int .i64 0] := by kernel_rfl
@[simp] theorem aeq_25 : aeqOk Tryd.prog 25 3 = true := by kernel_rfl
@[simp] theorem by_25 : Tryd.prog.bytesOf 25 = 24 := by kernel_rfl
@[simp] theorem tk_28 : tk Tryd.prog 28 = .slice 2 := by kernel_rfl
@[simp] theorem co_28 : Tryd.prog.cellsOf 28 = 1 := by kernel_rfl
@[simp] theorem cz_28 : csz Tryd.prog 28 = 1 := by kernel_rfl
@[simp] theorem ag_28 : aggB Tryd.prog 28 = false := by kernel_rfl
@[simp] theorem ze_28 : zeroV Tryd.prog 28 = some [.slice none 0 0] := by kernel_rfl
@[simp] theorem by_28 : Tryd.prog.bytesOf 28 = 24 := by kernel_rfl
@[simp] theorem tk_30 : tk Tryd.prog 30 = .struct [(0, 1, false), (1, 1, false), (2, 1, false), (3, 1, false), (4, 1, false), (5, 1, false), (6, 1, false)] := by kernel_rfl
@[simp] theorem co_30 : Tryd.prog.cellsOf 30 = 7 := by kernel_rfl
@[simp] theorem cz_30 : csz Tryd.prog 30 = 7 := by kernel_rfl
@[simp] theorem ag_30 : aggB Tryd.prog 30 = true := by kernel_rfl
@[simp] theorem ze_30 : zeroV Tryd.prog 30 = some [.slice none 0 0, .slice none 0 0, .int .i64 0, .int .i64 0, .int .i64 0, .int .i64 0, .int .i64 0] := by kernel_rfl
@[simp] theorem by_30 : Tryd.prog.bytesOf 30 = 88 := by kernel_rfl
@[simp] theorem tk_33 : tk Tryd.prog 33 = .struct [(0, 1, false), (1, 1, false), (2, 1, false), (3, 1, false), (4, 1, false), (5, 1, false), (6, 1, false)] := by kernel_rfl
@[simp] theorem co_33 : Tryd.prog.cellsOf 33 = 7 := by kernel_rfl
@[simp] theorem cz_33 : csz Tryd.prog 33 = 7 := by kernel_rfl
@[simp] theorem ag_33 : aggB Tryd.prog 33 = true := by kernel_rfl
@[simp] theorem ze_33 : zeroV Tryd.prog 33 = some [.slice none 0 0, .slice none 0 0, .int .i64 0, .int .i64 0, .int .i64 0, .int .i64 0, .int .i64 0] := by kernel_rfl
@[simp] theorem by_33 : Tryd.prog.bytesOf 33 = 88 := by kernel_rfl
@[simp] theorem tk_37 : tk Tryd.prog 37 = .slice 67 := by kernel_rfl
@[simp] theorem co_37 : Tryd.prog.cellsOf 37 = 1 := by kernel_rfl
@[simp] theorem cz_37 : csz Tryd.prog 37 = 1 := by kernel_rfl
@[simp] theorem ag_37 : aggB Tryd.prog 37 = false := by kernel_rfl
@[simp] theorem ze_37 : zeroV Tryd.prog 37 = some [.slice none 0 0] := by kernel_rfl
@[simp] theorem by_37 : Tryd.prog.bytesOf 37 = 24 := by kernel_rfl
@[simp] theorem tk_40 : tk Tryd.prog 40 = .slice 62 := by kernel_rfl
@[simp] theorem co_40 : Tryd.prog.cellsOf 40 = 1 := by kernel_rfl
@[simp] theorem cz_40 : csz Tryd.prog 40 = 1 := by kernel_rfl
@[simp] theorem ag_40 : aggB Tryd.prog 40 = false := by kernel_rfl
@[simp] theorem ze_40 : zeroV Tryd.prog 40 = some [.slice none 0 0] := by kernel_rfl
@[simp] theorem by_40 : Tryd.prog.bytesOf 40 = 24 := by kernel_rfl
@[simp] theorem tk_45 : tk Tryd.prog 45 = .ptr 25 := by kernel_rfl
@[simp] theorem co_45 : Tryd.prog.cellsOf 45 = 1 := by kernel_rfl
@[simp] theorem cz_45 : csz Tryd.prog 45 = 1 := by kernel_rfl
@[simp] theorem ag_45 : aggB Tryd.prog 45 = false := by kernel_rfl
@[simp] theorem ze_45 : zeroV Tryd.prog 45 = some [.pointer none] := by kernel_rfl
@[simp] theorem by_45 : Tryd.prog.bytesOf 45 = 8 := by kernel_rfl
@[simp] theorem tk_49 : tk Tryd.prog 49 = .slice 9 := by kernel_rfl
@[simp] theorem co_49 : Tryd.prog.cellsOf 49 = 1 := by kernel_rfl
@[simp] theorem cz_49 : csz Tryd.prog 49 = 1 := by kernel_rfl
@[simp] theorem ag_49 : aggB Tryd.prog 49 = false := by kernel_rfl
@[simp] theorem ze_49 : zeroV Tryd.prog 49 = some [.slice none 0 0] := by kernel_rfl
@[simp] theorem by_49 : Tryd.prog.bytesOf 49 = 24 := by kernel_rfl
@[simp] theorem tk_54 : tk Tryd.prog 54 = .ptr 33 := by kernel_rfl
@[simp] theorem co_54 : Tryd.prog.cellsOf 54 = 1 := by kernel_rfl
@[simp] theorem cz_54 : csz Tryd.prog 54 = 1 := by kernel_rfl
@[simp] theorem ag_54 : aggB Tryd.prog 54 = false := by kernel_rfl
@[simp] theorem ze_54 : zeroV Tryd.prog 54 = some [.pointer none] := by kernel_rfl
@[simp] theorem by_54 : Tryd.prog.bytesOf 54 = 8 := by kernel_rfl
@[simp] theorem tk_59 : tk Tryd.prog 59 = .ptr 62 := by kernel_rfl
@[simp] theorem co_59 : Tryd.prog.cellsOf 59 = 1 := by kernel_rfl
@[simp] theorem cz_59 : csz Tryd.prog 59 = 1 := by kernel_rfl
@[simp] theorem ag_59 : aggB Tryd.prog 59 = false := by kernel_rfl
@[simp] theorem ze_59 : zeroV Tryd.prog 59 = some [.pointer none] := by kernel_rfl
@[simp] theorem by_59 : Tryd.prog.bytesOf 59 = 8 := by kernel_rfl
@[simp] theorem tk_60 : tk Tryd.prog 60 = .int .u32 := by kernel_rfl
@[simp] theorem co_60 : Tryd.prog.cellsOf 60 = 1 := by kernel_rfl
@[simp] theorem cz_60 : csz Tryd.prog 60 = 1 := by kernel_rfl
@[simp] theorem ag_60 : aggB Tryd.prog 60 = false := by kernel_rfl
@[simp] theorem ze_60 : zeroV Tryd.prog 60 = some [.int .u32 0] := by kernel_rfl
@[simp] theorem by_60 : Tryd.prog.bytesOf 60 = 4 := by kernel_rfl
@[simp] theorem tk_62 : tk Tryd.prog 62 = .struct [(0, 1, false), (1, 1, false), (2, 3, true)] := by kernel_rfl
@[simp] theorem co_62 : Tryd.prog.cellsOf 62 = 5 := by kernel_rfl
@[simp] theorem cz_62 : csz Tryd.prog 62 = 5 := by kernel_rfl
@[simp] theorem ag_62 : aggB Tryd.prog 62 = true := by kernel_rfl
@[simp] theorem ze_62 : zeroV Tryd.prog 62 = some [.bool false, .int .u32 0, .int .i64 0, .int .i64 0, .int .i64 0] := by kernel_rfl
@[simp] theorem by_62 : Tryd.prog.bytesOf 62 = 32 := by kernel_rfl
@[simp] theorem tk_67 : tk Tryd.prog 67 = .struct [(0, 1, false), (1, 1, false), (2, 3, true)] := by kernel_rfl
@[simp] theorem co_67 : Tryd.prog.cellsOf 67 = 5 := by kernel_rfl
@[simp] theorem cz_67 : csz Tryd.prog 67 = 5 := by kernel_rfl
@[simp] theorem ag_67 : aggB Tryd.prog 67 = true := by kernel_rfl
@[simp] theorem ze_67 : zeroV Tryd.prog 67 = some [.bool false, .int .u32 0, .int .i64 0, .int .i64 0, .int .i64 0] := by kernel_rfl
@[simp] theorem by_67 : Tryd.prog.bytesOf 67 = 32 := by kernel_rfl
@[simp] theorem tk_75 : tk Tryd.prog 75 = .slice 5 := by kernel_rfl
@[simp] theorem co_75 : Tryd.prog.cellsOf 75 = 1 := by kernel_rfl
@[simp] theorem cz_75 : csz Tryd.prog 75 = 1 := by kernel_rfl
@[simp] theorem ag_75 : aggB Tryd.prog 75 = false := by kernel_rfl
@[simp] theorem ze_75 : zeroV Tryd.prog 75 = some [.slice none 0 0] := by kernel_rfl
@[simp] theorem by_75 : Tryd.prog.bytesOf 75 = 24 := by kernel_rfl
@[simp] theorem tk_76 : tk Tryd.prog 76 = .int .u64 := by kernel_rfl
@[simp] theorem co_76 : Tryd.prog.cellsOf 76 = 1 := by kernel_rfl
@[simp] theorem cz_76 : csz Tryd.prog 76 = 1 := by kernel_rfl
@[simp] theorem ag_76 : aggB Tryd.prog 76 = false := by kernel_rfl
@[simp] theorem ze_76 : zeroV Tryd.prog 76 = some [.int .u64 0] := by kernel_rfl
@[simp] theorem by_76 : Tryd.prog.bytesOf 76 = 8 := by kernel_rfl
@[simp] theorem tk_78 : tk Tryd.prog 78 = .ptr 80 := by kernel_rfl
@[simp] theorem co_78 : Tryd.prog.cellsOf 78 = 1 := by kernel_rfl
@[simp] theorem cz_78 : csz Tryd.prog 78 = 1 := by kernel_rfl
@[simp] theorem ag_78 : aggB Tryd.prog 78 = false := by kernel_rfl
@[simp] theorem ze_78 : zeroV Tryd.prog 78 = some [.pointer none] := by kernel_rfl
@[simp] theorem by_78 : Tryd.prog.bytesOf 78 = 8 := by kernel_rfl
@[simp] theorem tk_80 : tk Tryd.prog 80 = .struct [(0, 1, false), (1, 1, false)] := by kernel_rfl
@[simp] theorem co_80 : Tryd.prog.cellsOf 80 = 2 := by kernel_rfl
@[simp] theorem cz_80 : csz Tryd.prog 80 = 2 := by kernel_rfl
@[simp] theorem ag_80 : aggB Tryd.prog 80 = true := by kernel_rfl
@[simp] theorem ze_80 : zeroV Tryd.prog 80 = some [.pointer none, .slice none 0 0] := by kernel_rfl
@[simp] theorem by_80 : Tryd.prog.bytesOf 80 = 32 := by kernel_rfl
theorem mixed : Tryd.prog.follows .mixedOrders = true := by kernel_rfl
structure T25 where
  kind_ : Int
  a_ : Int
  b_ : Int
def pT25 (x : T25) : List V := [.i .i64 x.kind_, .i .i64 x.a_, .i .i64 x.b_]
section
variable {x : T25}
@[simp] theorem pT25_len : (pT25 x).length = 3 := rfl
@[simp] theorem pT25_0 : (pT25 x)[0]? = some (.i .i64 x.kind_) := rfl
@[simp] theorem pT25_g0 (h : 0 < (pT25 x).length) : (pT25 x)[0] = .i .i64 x.kind_ := rfl
@[simp] theorem pT25_1 : (pT25 x)[1]? = some (.i .i64 x.a_) := rfl
@[simp] theorem pT25_g1 (h : 1 < (pT25 x).length) : (pT25 x)[1] = .i .i64 x.a_ := rfl
@[simp] theorem pT25_2 : (pT25 x)[2]? = some (.i .i64 x.b_) := rfl
@[simp] theorem pT25_g2 (h : 2 < (pT25 x).length) : (pT25 x)[2] = .i .i64 x.b_ := rfl
@[simp] theorem pT25_un1 : (pT25 x).map un1 = pT25 x := rfl
@[simp] theorem pT25_snap : snapL (pT25 x) = true := by simp [pT25]
@[simp] theorem pT25_cell : (pT25 x).all cellV = true := by simp [pT25]
@[simp high] theorem pT25_vc : vcells (.agg (pT25 x)) = some (pT25 x) := by simp [pT25]
@[simp] theorem pT25_noB {b : Nat} : (pT25 x).all (noBV b) = true := by simp [pT25]
@[simp] theorem pT25_bnd {k : Nat} : (pT25 x).all (bndV k) = true := by simp [pT25, bndV]
@[simp] theorem pT25_re {m : VM} : vreL1 m (pT25 x) = some (pT25 x) := by simp [pT25]
end
@[simp] def cs_ (x : ByteArray) : List V := [.str x]
instance : Pln cs_ := ⟨fun x => by simp⟩
@[simp] theorem cs__len {x : ByteArray} : (cs_ x).length = 1 := rfl
@[simp] theorem cs__set {xs : List ByteArray} {i : Nat} {a : ByteArray} : (rows cs_ xs).set i [.str a] = rows cs_ (xs.set i a) := rows_set (c := cs_) (x := a)
@[simp] theorem cs__snoc {xs : List ByteArray} {a : ByteArray} : rows cs_ xs ++ [[.str a]] = rows cs_ (xs ++ [a]) := rows_snoc (c := cs_) (x := a)
@[simp] theorem cs__rep {n : Nat} {a : ByteArray} : List.replicate n [.str a] = rows cs_ (List.replicate n a) := rows_rep (c := cs_) (x := a)
theorem cs__inj (x y : ByteArray) (h : cs_ x = cs_ y) : x = y := by
  simp only [cs_, List.cons.injEq, V.i.injEq, V.b.injEq, V.f.injEq, V.str.injEq, V.sl.injEq, V.own.injEq, true_and, and_true] at h
  simp_all
@[simp] def ci_u8 (x : Int) : List V := [.i .u8 x]
@[simp] theorem ci_u8_nums {xs : List Int} : numsOf (rows ci_u8 xs) = some xs := by
  induction xs with
  | nil => rfl
  | cons x xs ih => simp [numsOf, numOf, ih]
instance : Pln ci_u8 := ⟨fun x => by simp⟩
@[simp] theorem ci_u8_len {x : Int} : (ci_u8 x).length = 1 := rfl
@[simp] theorem ci_u8_set {xs : List Int} {i : Nat} {a : Int} : (rows ci_u8 xs).set i [.i .u8 a] = rows ci_u8 (xs.set i a) := rows_set (c := ci_u8) (x := a)
@[simp] theorem ci_u8_snoc {xs : List Int} {a : Int} : rows ci_u8 xs ++ [[.i .u8 a]] = rows ci_u8 (xs ++ [a]) := rows_snoc (c := ci_u8) (x := a)
@[simp] theorem ci_u8_rep {n : Nat} {a : Int} : List.replicate n [.i .u8 a] = rows ci_u8 (List.replicate n a) := rows_rep (c := ci_u8) (x := a)
theorem ci_u8_inj (x y : Int) (h : ci_u8 x = ci_u8 y) : x = y := by
  simp only [ci_u8, List.cons.injEq, V.i.injEq, V.b.injEq, V.f.injEq, V.str.injEq, V.sl.injEq, V.own.injEq, true_and, and_true] at h
  simp_all
@[simp] def cT25 (x : T25) : List V := [.i .i64 x.kind_, .i .i64 x.a_, .i .i64 x.b_]
instance : Pln cT25 := ⟨fun x => by simp⟩
@[simp] theorem cT25_len {x : T25} : (cT25 x).length = 3 := rfl
@[simp] theorem cT25_set {xs : List T25} {i : Nat} {a0 : Int} {a1 : Int} {a2 : Int} : (rows cT25 xs).set i [.i .i64 a0, .i .i64 a1, .i .i64 a2] = rows cT25 (xs.set i (⟨a0, a1, a2⟩ : T25)) := rows_set (c := cT25) (x := (⟨a0, a1, a2⟩ : T25))
@[simp] theorem cT25_snoc {xs : List T25} {a0 : Int} {a1 : Int} {a2 : Int} : rows cT25 xs ++ [[.i .i64 a0, .i .i64 a1, .i .i64 a2]] = rows cT25 (xs ++ [(⟨a0, a1, a2⟩ : T25)]) := rows_snoc (c := cT25) (x := (⟨a0, a1, a2⟩ : T25))
@[simp] theorem cT25_rep {n : Nat} {a0 : Int} {a1 : Int} {a2 : Int} : List.replicate n [.i .i64 a0, .i .i64 a1, .i .i64 a2] = rows cT25 (List.replicate n (⟨a0, a1, a2⟩ : T25)) := rows_rep (c := cT25) (x := (⟨a0, a1, a2⟩ : T25))
theorem cT25_inj (x y : T25) (h : cT25 x = cT25 y) : x = y := by
  obtain ⟨i23, i24, i25⟩ := x
  obtain ⟨i26, i27, i28⟩ := y
  simp only [cT25, List.cons.injEq, V.i.injEq, V.b.injEq, V.f.injEq, V.str.injEq, V.sl.injEq, V.own.injEq, true_and, and_true] at h
  simp_all
@[simp] def ci_i64 (x : Int) : List V := [.i .i64 x]
instance : Pln ci_i64 := ⟨fun x => by simp⟩
@[simp] theorem ci_i64_len {x : Int} : (ci_i64 x).length = 1 := rfl
@[simp] theorem ci_i64_set {xs : List Int} {i : Nat} {a : Int} : (rows ci_i64 xs).set i [.i .i64 a] = rows ci_i64 (xs.set i a) := rows_set (c := ci_i64) (x := a)
@[simp] theorem ci_i64_snoc {xs : List Int} {a : Int} : rows ci_i64 xs ++ [[.i .i64 a]] = rows ci_i64 (xs ++ [a]) := rows_snoc (c := ci_i64) (x := a)
@[simp] theorem ci_i64_rep {n : Nat} {a : Int} : List.replicate n [.i .i64 a] = rows ci_i64 (List.replicate n a) := rows_rep (c := ci_i64) (x := a)
theorem ci_i64_inj (x y : Int) (h : ci_i64 x = ci_i64 y) : x = y := by
  simp only [ci_i64, List.cons.injEq, V.i.injEq, V.b.injEq, V.f.injEq, V.str.injEq, V.sl.injEq, V.own.injEq, true_and, and_true] at h
  simp_all
structure T30 where
  need_ : List Int
  price_ : List Int
  most_ : Int
  yield_ : Int
  store_ : Int
  first_ : Int
  loss_ : Int
def pT30 (x : T30) : List V := [.sl 1 (rows ci_i64 x.need_), .sl 1 (rows ci_i64 x.price_), .i .i64 x.most_, .i .i64 x.yield_, .i .i64 x.store_, .i .i64 x.first_, .i .i64 x.loss_]
section
variable {x : T30}
@[simp] theorem pT30_len : (pT30 x).length = 7 := rfl
@[simp] theorem pT30_0 : (pT30 x)[0]? = some (.sl 1 (rows ci_i64 x.need_)) := rfl
@[simp] theorem pT30_g0 (h : 0 < (pT30 x).length) : (pT30 x)[0] = .sl 1 (rows ci_i64 x.need_) := rfl
@[simp] theorem pT30_1 : (pT30 x)[1]? = some (.sl 1 (rows ci_i64 x.price_)) := rfl
@[simp] theorem pT30_g1 (h : 1 < (pT30 x).length) : (pT30 x)[1] = .sl 1 (rows ci_i64 x.price_) := rfl
@[simp] theorem pT30_2 : (pT30 x)[2]? = some (.i .i64 x.most_) := rfl
@[simp] theorem pT30_g2 (h : 2 < (pT30 x).length) : (pT30 x)[2] = .i .i64 x.most_ := rfl
@[simp] theorem pT30_3 : (pT30 x)[3]? = some (.i .i64 x.yield_) := rfl
@[simp] theorem pT30_g3 (h : 3 < (pT30 x).length) : (pT30 x)[3] = .i .i64 x.yield_ := rfl
@[simp] theorem pT30_4 : (pT30 x)[4]? = some (.i .i64 x.store_) := rfl
@[simp] theorem pT30_g4 (h : 4 < (pT30 x).length) : (pT30 x)[4] = .i .i64 x.store_ := rfl
@[simp] theorem pT30_5 : (pT30 x)[5]? = some (.i .i64 x.first_) := rfl
@[simp] theorem pT30_g5 (h : 5 < (pT30 x).length) : (pT30 x)[5] = .i .i64 x.first_ := rfl
@[simp] theorem pT30_6 : (pT30 x)[6]? = some (.i .i64 x.loss_) := rfl
@[simp] theorem pT30_g6 (h : 6 < (pT30 x).length) : (pT30 x)[6] = .i .i64 x.loss_ := rfl
@[simp] theorem pT30_un1 : (pT30 x).map un1 = pT30 x := rfl
@[simp] theorem pT30_snap : snapL (pT30 x) = true := by simp [pT30]
@[simp] theorem pT30_cell : (pT30 x).all cellV = true := by simp [pT30]
@[simp high] theorem pT30_vc : vcells (.agg (pT30 x)) = some (pT30 x) := by simp [pT30]
@[simp] theorem pT30_noB {b : Nat} : (pT30 x).all (noBV b) = true := by simp [pT30]
@[simp] theorem pT30_bnd {k : Nat} : (pT30 x).all (bndV k) = true := by simp [pT30, bndV]
@[simp] theorem pT30_re {m : VM} : vreL1 m (pT30 x) = some (pT30 x) := by simp [pT30]
end
@[simp] def cT30 (x : T30) : List V := [.sl 1 (rows ci_i64 x.need_), .sl 1 (rows ci_i64 x.price_), .i .i64 x.most_, .i .i64 x.yield_, .i .i64 x.store_, .i .i64 x.first_, .i .i64 x.loss_]
instance : Snp cT30 := ⟨fun x => by simp, fun x => by simp⟩
@[simp] theorem cT30_len {x : T30} : (cT30 x).length = 7 := rfl
@[simp] theorem cT30_set {xs : List T30} {i : Nat} {a0 : List Int} {a1 : List Int} {a2 : Int} {a3 : Int} {a4 : Int} {a5 : Int} {a6 : Int} : (rows cT30 xs).set i [.sl 1 (rows ci_i64 a0), .sl 1 (rows ci_i64 a1), .i .i64 a2, .i .i64 a3, .i .i64 a4, .i .i64 a5, .i .i64 a6] = rows cT30 (xs.set i (⟨a0, a1, a2, a3, a4, a5, a6⟩ : T30)) := rows_set (c := cT30) (x := (⟨a0, a1, a2, a3, a4, a5, a6⟩ : T30))
@[simp] theorem cT30_snoc {xs : List T30} {a0 : List Int} {a1 : List Int} {a2 : Int} {a3 : Int} {a4 : Int} {a5 : Int} {a6 : Int} : rows cT30 xs ++ [[.sl 1 (rows ci_i64 a0), .sl 1 (rows ci_i64 a1), .i .i64 a2, .i .i64 a3, .i .i64 a4, .i .i64 a5, .i .i64 a6]] = rows cT30 (xs ++ [(⟨a0, a1, a2, a3, a4, a5, a6⟩ : T30)]) := rows_snoc (c := cT30) (x := (⟨a0, a1, a2, a3, a4, a5, a6⟩ : T30))
@[simp] theorem cT30_rep {n : Nat} {a0 : List Int} {a1 : List Int} {a2 : Int} {a3 : Int} {a4 : Int} {a5 : Int} {a6 : Int} : List.replicate n [.sl 1 (rows ci_i64 a0), .sl 1 (rows ci_i64 a1), .i .i64 a2, .i .i64 a3, .i .i64 a4, .i .i64 a5, .i .i64 a6] = rows cT30 (List.replicate n (⟨a0, a1, a2, a3, a4, a5, a6⟩ : T30)) := rows_rep (c := cT30) (x := (⟨a0, a1, a2, a3, a4, a5, a6⟩ : T30))
theorem cT30_inj (x y : T30) (h : cT30 x = cT30 y) : x = y := by
  obtain ⟨i81, i82, i83, i84, i85, i86, i87⟩ := x
  obtain ⟨i88, i89, i90, i91, i92, i93, i94⟩ := y
  simp only [cT30, List.cons.injEq, V.i.injEq, V.b.injEq, V.f.injEq, V.str.injEq, V.sl.injEq, V.own.injEq, true_and, and_true] at h
  simp_all [ri ci_i64_inj]
structure T67 where
  mark_ : Bool
  check_ : Int
  act_ : T25
@[simp] def cT67 (x : T67) : List V := [.b x.mark_, .i .u32 x.check_, .i .i64 x.act_.kind_, .i .i64 x.act_.a_, .i .i64 x.act_.b_]
instance : Pln cT67 := ⟨fun x => by simp⟩
@[simp] theorem cT67_len {x : T67} : (cT67 x).length = 5 := rfl
@[simp] theorem cT67_set {xs : List T67} {i : Nat} {a0 : Bool} {a1 : Int} {a2 : Int} {a3 : Int} {a4 : Int} : (rows cT67 xs).set i [.b a0, .i .u32 a1, .i .i64 a2, .i .i64 a3, .i .i64 a4] = rows cT67 (xs.set i (⟨a0, a1, (⟨a2, a3, a4⟩ : T25)⟩ : T67)) := rows_set (c := cT67) (x := (⟨a0, a1, (⟨a2, a3, a4⟩ : T25)⟩ : T67))
@[simp] theorem cT67_snoc {xs : List T67} {a0 : Bool} {a1 : Int} {a2 : Int} {a3 : Int} {a4 : Int} : rows cT67 xs ++ [[.b a0, .i .u32 a1, .i .i64 a2, .i .i64 a3, .i .i64 a4]] = rows cT67 (xs ++ [(⟨a0, a1, (⟨a2, a3, a4⟩ : T25)⟩ : T67)]) := rows_snoc (c := cT67) (x := (⟨a0, a1, (⟨a2, a3, a4⟩ : T25)⟩ : T67))
@[simp] theorem cT67_rep {n : Nat} {a0 : Bool} {a1 : Int} {a2 : Int} {a3 : Int} {a4 : Int} : List.replicate n [.b a0, .i .u32 a1, .i .i64 a2, .i .i64 a3, .i .i64 a4] = rows cT67 (List.replicate n (⟨a0, a1, (⟨a2, a3, a4⟩ : T25)⟩ : T67)) := rows_rep (c := cT67) (x := (⟨a0, a1, (⟨a2, a3, a4⟩ : T25)⟩ : T67))
theorem cT67_inj (x y : T67) (h : cT67 x = cT67 y) : x = y := by
  obtain ⟨i261, i262, ⟨i263, i264, i265⟩⟩ := x
  obtain ⟨i266, i267, ⟨i268, i269, i270⟩⟩ := y
  simp only [cT67, List.cons.injEq, V.i.injEq, V.b.injEq, V.f.injEq, V.str.injEq, V.sl.injEq, V.own.injEq, true_and, and_true] at h
  simp_all
def pT67 (x : T67) : List V := [.b x.mark_, .i .u32 x.check_, .i .i64 x.act_.kind_, .i .i64 x.act_.a_, .i .i64 x.act_.b_]
section
variable {x : T67}
@[simp] theorem pT67_len : (pT67 x).length = 5 := rfl
@[simp] theorem pT67_0 : (pT67 x)[0]? = some (.b x.mark_) := rfl
@[simp] theorem pT67_g0 (h : 0 < (pT67 x).length) : (pT67 x)[0] = .b x.mark_ := rfl
@[simp] theorem pT67_1 : (pT67 x)[1]? = some (.i .u32 x.check_) := rfl
@[simp] theorem pT67_g1 (h : 1 < (pT67 x).length) : (pT67 x)[1] = .i .u32 x.check_ := rfl
@[simp] theorem pT67_2 : (pT67 x)[2]? = some (.i .i64 x.act_.kind_) := rfl
@[simp] theorem pT67_g2 (h : 2 < (pT67 x).length) : (pT67 x)[2] = .i .i64 x.act_.kind_ := rfl
@[simp] theorem pT67_3 : (pT67 x)[3]? = some (.i .i64 x.act_.a_) := rfl
@[simp] theorem pT67_g3 (h : 3 < (pT67 x).length) : (pT67 x)[3] = .i .i64 x.act_.a_ := rfl
@[simp] theorem pT67_4 : (pT67 x)[4]? = some (.i .i64 x.act_.b_) := rfl
@[simp] theorem pT67_g4 (h : 4 < (pT67 x).length) : (pT67 x)[4] = .i .i64 x.act_.b_ := rfl
@[simp] theorem pT67_d2 : (pT67 x).drop 2 = [.i .i64 x.act_.kind_, .i .i64 x.act_.a_, .i .i64 x.act_.b_] := rfl
@[simp] theorem pT67_s2_3 : ((pT67 x).drop 2).take 3 = [.i .i64 x.act_.kind_, .i .i64 x.act_.a_, .i .i64 x.act_.b_] := rfl
@[simp] theorem pT67_un1 : (pT67 x).map un1 = pT67 x := rfl
@[simp] theorem pT67_snap : snapL (pT67 x) = true := by simp [pT67]
@[simp] theorem pT67_cell : (pT67 x).all cellV = true := by simp [pT67]
@[simp high] theorem pT67_vc : vcells (.agg (pT67 x)) = some (pT67 x) := by simp [pT67]
@[simp] theorem pT67_noB {b : Nat} : (pT67 x).all (noBV b) = true := by simp [pT67]
@[simp] theorem pT67_bnd {k : Nat} : (pT67 x).all (bndV k) = true := by simp [pT67, bndV]
@[simp] theorem pT67_re {m : VM} : vreL1 m (pT67 x) = some (pT67 x) := by simp [pT67]
end
end Go.Proofs.YtaajogkciipnjaaDoor
