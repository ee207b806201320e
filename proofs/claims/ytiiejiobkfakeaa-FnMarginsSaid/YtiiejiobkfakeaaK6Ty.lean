/- The types of the seat. -/
import Derived.Test.YtiiejiobkfakeaaVxInM
import Derived.Test.YtiiejiobkfakeaaProg
import Derived.KernelRfl
namespace Go.Proofs.Ytiiejiobkfakeaa
open Go.RowKit Go.VL
set_option linter.unusedSimpArgs false
set_option linter.unusedVariables false
set_option maxHeartbeats 1000000
@[simp] theorem tk_2 : tk Try.prog 2 = .int .i64 := by kernel_rfl
@[simp] theorem co_2 : Try.prog.cellsOf 2 = 1 := by kernel_rfl
@[simp] theorem cz_2 : csz Try.prog 2 = 1 := by kernel_rfl
@[simp] theorem ag_2 : aggB Try.prog 2 = false := by kernel_rfl
@[simp] theorem ze_2 : zeroV Try.prog 2 = some [.int .i64 0] := by kernel_rfl
@[simp] theorem by_2 : Try.prog.bytesOf 2 = 8 := by kernel_rfl
@[simp] theorem tk_3 : tk Try.prog 3 = .int .i64 := by kernel_rfl
@[simp] theorem co_3 : Try.prog.cellsOf 3 = 1 := by kernel_rfl
@[simp] theorem cz_3 : csz Try.prog 3 = 1 := by kernel_rfl
@[simp] theorem ag_3 : aggB Try.prog 3 = false := by kernel_rfl
@[simp] theorem ze_3 : zeroV Try.prog 3 = some [.int .i64 0] := by kernel_rfl
@[simp] theorem by_3 : Try.prog.bytesOf 3 = 8 := by kernel_rfl
@[simp] theorem tk_4 : tk Try.prog 4 = .bool := by kernel_rfl
@[simp] theorem co_4 : Try.prog.cellsOf 4 = 1 := by kernel_rfl
@[simp] theorem cz_4 : csz Try.prog 4 = 1 := by kernel_rfl
@[simp] theorem ag_4 : aggB Try.prog 4 = false := by kernel_rfl
@[simp] theorem ze_4 : zeroV Try.prog 4 = some [.bool false] := by kernel_rfl
@[simp] theorem by_4 : Try.prog.bytesOf 4 = 1 := by kernel_rfl
@[simp] theorem tk_5 : tk Try.prog 5 = .int .u8 := by kernel_rfl
@[simp] theorem co_5 : Try.prog.cellsOf 5 = 1 := by kernel_rfl
@[simp] theorem cz_5 : csz Try.prog 5 = 1 := by kernel_rfl
@[simp] theorem ag_5 : aggB Try.prog 5 = false := by kernel_rfl
@[simp] theorem ze_5 : zeroV Try.prog 5 = some [.int .u8 0] := by kernel_rfl
@[simp] theorem by_5 : Try.prog.bytesOf 5 = 1 := by kernel_rfl
@[simp] theorem tk_22 : tk Try.prog 22 = .slice 2 := by kernel_rfl
@[simp] theorem co_22 : Try.prog.cellsOf 22 = 1 := by kernel_rfl
@[simp] theorem cz_22 : csz Try.prog 22 = 1 := by kernel_rfl
@[simp] theorem ag_22 : aggB Try.prog 22 = false := by kernel_rfl
@[simp] theorem ze_22 : zeroV Try.prog 22 = some [.slice none 0 0] := by kernel_rfl
@[simp] theorem by_22 : Try.prog.bytesOf 22 = 24 := by kernel_rfl
@[simp] theorem tk_25 : tk Try.prog 25 = .slice 22 := by kernel_rfl
@[simp] theorem co_25 : Try.prog.cellsOf 25 = 1 := by kernel_rfl
@[simp] theorem cz_25 : csz Try.prog 25 = 1 := by kernel_rfl
@[simp] theorem ag_25 : aggB Try.prog 25 = false := by kernel_rfl
@[simp] theorem ze_25 : zeroV Try.prog 25 = some [.slice none 0 0] := by kernel_rfl
@[simp] theorem by_25 : Try.prog.bytesOf 25 = 24 := by kernel_rfl
@[simp] theorem tk_30 : tk Try.prog 30 = .struct [(0, 1, false), (1, 1, false), (2, 1, false), (3, 1, false), (4, 1, false), (5, 1, false), (6, 1, false)] := by kernel_rfl
@[simp] theorem co_30 : Try.prog.cellsOf 30 = 7 := by kernel_rfl
@[simp] theorem cz_30 : csz Try.prog 30 = 7 := by kernel_rfl
@[simp] theorem ag_30 : aggB Try.prog 30 = true := by kernel_rfl
@[simp] theorem ze_30 : zeroV Try.prog 30 = some [.slice none 0 0, .slice none 0 0, .int .i64 0, .int .i64 0, .int .i64 0, .int .i64 0, .int .i64 0] := by kernel_rfl
@[simp] theorem by_30 : Try.prog.bytesOf 30 = 88 := by kernel_rfl
@[simp] theorem tk_44 : tk Try.prog 44 = .slice 5 := by kernel_rfl
@[simp] theorem co_44 : Try.prog.cellsOf 44 = 1 := by kernel_rfl
@[simp] theorem cz_44 : csz Try.prog 44 = 1 := by kernel_rfl
@[simp] theorem ag_44 : aggB Try.prog 44 = false := by kernel_rfl
@[simp] theorem ze_44 : zeroV Try.prog 44 = some [.slice none 0 0] := by kernel_rfl
@[simp] theorem by_44 : Try.prog.bytesOf 44 = 24 := by kernel_rfl
@[simp] theorem tk_58 : tk Try.prog 58 = .ptr 30 := by kernel_rfl
@[simp] theorem co_58 : Try.prog.cellsOf 58 = 1 := by kernel_rfl
@[simp] theorem cz_58 : csz Try.prog 58 = 1 := by kernel_rfl
@[simp] theorem ag_58 : aggB Try.prog 58 = false := by kernel_rfl
@[simp] theorem ze_58 : zeroV Try.prog 58 = some [.pointer none] := by kernel_rfl
@[simp] theorem by_58 : Try.prog.bytesOf 58 = 8 := by kernel_rfl
@[simp] theorem tk_70 : tk Try.prog 70 = .ptr 85 := by kernel_rfl
@[simp] theorem co_70 : Try.prog.cellsOf 70 = 1 := by kernel_rfl
@[simp] theorem cz_70 : csz Try.prog 70 = 1 := by kernel_rfl
@[simp] theorem ag_70 : aggB Try.prog 70 = false := by kernel_rfl
@[simp] theorem ze_70 : zeroV Try.prog 70 = some [.pointer none] := by kernel_rfl
@[simp] theorem by_70 : Try.prog.bytesOf 70 = 8 := by kernel_rfl
@[simp] theorem tk_83 : tk Try.prog 83 = .int .u64 := by kernel_rfl
@[simp] theorem co_83 : Try.prog.cellsOf 83 = 1 := by kernel_rfl
@[simp] theorem cz_83 : csz Try.prog 83 = 1 := by kernel_rfl
@[simp] theorem ag_83 : aggB Try.prog 83 = false := by kernel_rfl
@[simp] theorem ze_83 : zeroV Try.prog 83 = some [.int .u64 0] := by kernel_rfl
@[simp] theorem by_83 : Try.prog.bytesOf 83 = 8 := by kernel_rfl
@[simp] theorem tk_85 : tk Try.prog 85 = .struct [(0, 1, false), (1, 1, false), (2, 1, false)] := by kernel_rfl
@[simp] theorem co_85 : Try.prog.cellsOf 85 = 3 := by kernel_rfl
@[simp] theorem cz_85 : csz Try.prog 85 = 3 := by kernel_rfl
@[simp] theorem ag_85 : aggB Try.prog 85 = true := by kernel_rfl
@[simp] theorem ze_85 : zeroV Try.prog 85 = some [.slice none 0 0, .int .i64 0, .int .u64 0] := by kernel_rfl
@[simp] theorem by_85 : Try.prog.bytesOf 85 = 40 := by kernel_rfl
theorem mixed : Try.prog.follows .mixedOrders = true := by kernel_rfl
@[simp] def ci_u8 (x : Int) : List V := [.i .u8 x]
@[simp] theorem ci_u8_nums {xs : List Int} : numsOf (rows ci_u8 xs) = some xs := by
  induction xs with
  | nil => rfl
  | cons x xs ih => simp [numsOf, numOf, ih]
instance : Pln ci_u8 := ⟨fun x => by simp⟩
@[simp] theorem ci_u8_len {x : Int} : (ci_u8 x).length = 1 := rfl
@[simp] theorem ci_u8_set {xs : List Int} {i : Nat} {a : Int} : (rows ci_u8 xs).set i [.i .u8 a] = rows ci_u8 (xs.set i a) := rows_set (c := ci_u8) (x := a)
@[simp] theorem ci_u8_snoc {xs : List Int} {a : Int} : rows ci_u8 xs ++ [[.i .u8 a]] = rows ci_u8 (xs ++ [a]) := rows_snoc (c := ci_u8) (x := a)
@[simp] theorem ci_u8_rep {n : Nat} {a : Int} : List.replicate n [.i .u8 a] = rows ci_u8 (List.replicate n a) := rows_rep (c := ci_u8) (x := a)
theorem ci_u8_inj (x y : Int) (h : ci_u8 x = ci_u8 y) : x = y := by
  simp only [ci_u8, List.cons.injEq, V.i.injEq, V.b.injEq, V.f.injEq, V.str.injEq, V.sl.injEq, V.own.injEq, true_and, and_true] at h
  simp_all
structure T85 where
  code_ : List Int
  at_ : Int
  seed_ : Int
def pT85 (x : T85) : List V := [.sl 1 (rows ci_u8 x.code_), .i .i64 x.at_, .i .u64 x.seed_]
section
variable {x : T85}
@[simp] theorem pT85_len : (pT85 x).length = 3 := rfl
@[simp] theorem pT85_0 : (pT85 x)[0]? = some (.sl 1 (rows ci_u8 x.code_)) := rfl
@[simp] theorem pT85_g0 (h : 0 < (pT85 x).length) : (pT85 x)[0] = .sl 1 (rows ci_u8 x.code_) := rfl
@[simp] theorem pT85_1 : (pT85 x)[1]? = some (.i .i64 x.at_) := rfl
@[simp] theorem pT85_g1 (h : 1 < (pT85 x).length) : (pT85 x)[1] = .i .i64 x.at_ := rfl
@[simp] theorem pT85_2 : (pT85 x)[2]? = some (.i .u64 x.seed_) := rfl
@[simp] theorem pT85_g2 (h : 2 < (pT85 x).length) : (pT85 x)[2] = .i .u64 x.seed_ := rfl
@[simp] theorem pT85_un1 : (pT85 x).map un1 = pT85 x := rfl
@[simp] theorem pT85_snap : snapL (pT85 x) = true := by simp [pT85]
@[simp] theorem pT85_cell : (pT85 x).all cellV = true := by simp [pT85]
@[simp high] theorem pT85_vc : vcells (.agg (pT85 x)) = some (pT85 x) := by simp [pT85]
@[simp] theorem pT85_noB {b : Nat} : (pT85 x).all (noBV b) = true := by simp [pT85]
@[simp] theorem pT85_bnd {k : Nat} : (pT85 x).all (bndV k) = true := by simp [pT85, bndV]
@[simp] theorem pT85_re {m : VM} : vreL1 m (pT85 x) = some (pT85 x) := by simp [pT85]
end
structure T30 where
  need_ : List Int
  price_ : List Int
  most_ : Int
  yield_ : Int
  store_ : Int
  first_ : Int
  loss_ : Int
@[simp] def ci_i64 (x : Int) : List V := [.i .i64 x]
instance : Pln ci_i64 := ⟨fun x => by simp⟩
@[simp] theorem ci_i64_len {x : Int} : (ci_i64 x).length = 1 := rfl
@[simp] theorem ci_i64_set {xs : List Int} {i : Nat} {a : Int} : (rows ci_i64 xs).set i [.i .i64 a] = rows ci_i64 (xs.set i a) := rows_set (c := ci_i64) (x := a)
@[simp] theorem ci_i64_snoc {xs : List Int} {a : Int} : rows ci_i64 xs ++ [[.i .i64 a]] = rows ci_i64 (xs ++ [a]) := rows_snoc (c := ci_i64) (x := a)
@[simp] theorem ci_i64_rep {n : Nat} {a : Int} : List.replicate n [.i .i64 a] = rows ci_i64 (List.replicate n a) := rows_rep (c := ci_i64) (x := a)
theorem ci_i64_inj (x y : Int) (h : ci_i64 x = ci_i64 y) : x = y := by
  simp only [ci_i64, List.cons.injEq, V.i.injEq, V.b.injEq, V.f.injEq, V.str.injEq, V.sl.injEq, V.own.injEq, true_and, and_true] at h
  simp_all
def pT30 (x : T30) : List V := [.sl 1 (rows ci_i64 x.need_), .sl 1 (rows ci_i64 x.price_), .i .i64 x.most_, .i .i64 x.yield_, .i .i64 x.store_, .i .i64 x.first_, .i .i64 x.loss_]
section
variable {x : T30}
@[simp] theorem pT30_len : (pT30 x).length = 7 := rfl
@[simp] theorem pT30_0 : (pT30 x)[0]? = some (.sl 1 (rows ci_i64 x.need_)) := rfl
@[simp] theorem pT30_g0 (h : 0 < (pT30 x).length) : (pT30 x)[0] = .sl 1 (rows ci_i64 x.need_) := rfl
@[simp] theorem pT30_1 : (pT30 x)[1]? = some (.sl 1 (rows ci_i64 x.price_)) := rfl
@[simp] theorem pT30_g1 (h : 1 < (pT30 x).length) : (pT30 x)[1] = .sl 1 (rows ci_i64 x.price_) := rfl
@[simp] theorem pT30_2 : (pT30 x)[2]? = some (.i .i64 x.most_) := rfl
@[simp] theorem pT30_g2 (h : 2 < (pT30 x).length) : (pT30 x)[2] = .i .i64 x.most_ := rfl
@[simp] theorem pT30_3 : (pT30 x)[3]? = some (.i .i64 x.yield_) := rfl
@[simp] theorem pT30_g3 (h : 3 < (pT30 x).length) : (pT30 x)[3] = .i .i64 x.yield_ := rfl
@[simp] theorem pT30_4 : (pT30 x)[4]? = some (.i .i64 x.store_) := rfl
@[simp] theorem pT30_g4 (h : 4 < (pT30 x).length) : (pT30 x)[4] = .i .i64 x.store_ := rfl
@[simp] theorem pT30_5 : (pT30 x)[5]? = some (.i .i64 x.first_) := rfl
@[simp] theorem pT30_g5 (h : 5 < (pT30 x).length) : (pT30 x)[5] = .i .i64 x.first_ := rfl
@[simp] theorem pT30_6 : (pT30 x)[6]? = some (.i .i64 x.loss_) := rfl
@[simp] theorem pT30_g6 (h : 6 < (pT30 x).length) : (pT30 x)[6] = .i .i64 x.loss_ := rfl
@[simp] theorem pT30_un1 : (pT30 x).map un1 = pT30 x := rfl
@[simp] theorem pT30_snap : snapL (pT30 x) = true := by simp [pT30]
@[simp] theorem pT30_cell : (pT30 x).all cellV = true := by simp [pT30]
@[simp high] theorem pT30_vc : vcells (.agg (pT30 x)) = some (pT30 x) := by simp [pT30]
@[simp] theorem pT30_noB {b : Nat} : (pT30 x).all (noBV b) = true := by simp [pT30]
@[simp] theorem pT30_bnd {k : Nat} : (pT30 x).all (bndV k) = true := by simp [pT30, bndV]
@[simp] theorem pT30_re {m : VM} : vreL1 m (pT30 x) = some (pT30 x) := by simp [pT30]
end
@[simp] def cT30 (x : T30) : List V := [.sl 1 (rows ci_i64 x.need_), .sl 1 (rows ci_i64 x.price_), .i .i64 x.most_, .i .i64 x.yield_, .i .i64 x.store_, .i .i64 x.first_, .i .i64 x.loss_]
instance : Snp cT30 := ⟨fun x => by simp, fun x => by simp⟩
@[simp] theorem cT30_len {x : T30} : (cT30 x).length = 7 := rfl
@[simp] theorem cT30_set {xs : List T30} {i : Nat} {a0 : List Int} {a1 : List Int} {a2 : Int} {a3 : Int} {a4 : Int} {a5 : Int} {a6 : Int} : (rows cT30 xs).set i [.sl 1 (rows ci_i64 a0), .sl 1 (rows ci_i64 a1), .i .i64 a2, .i .i64 a3, .i .i64 a4, .i .i64 a5, .i .i64 a6] = rows cT30 (xs.set i (⟨a0, a1, a2, a3, a4, a5, a6⟩ : T30)) := rows_set (c := cT30) (x := (⟨a0, a1, a2, a3, a4, a5, a6⟩ : T30))
@[simp] theorem cT30_snoc {xs : List T30} {a0 : List Int} {a1 : List Int} {a2 : Int} {a3 : Int} {a4 : Int} {a5 : Int} {a6 : Int} : rows cT30 xs ++ [[.sl 1 (rows ci_i64 a0), .sl 1 (rows ci_i64 a1), .i .i64 a2, .i .i64 a3, .i .i64 a4, .i .i64 a5, .i .i64 a6]] = rows cT30 (xs ++ [(⟨a0, a1, a2, a3, a4, a5, a6⟩ : T30)]) := rows_snoc (c := cT30) (x := (⟨a0, a1, a2, a3, a4, a5, a6⟩ : T30))
@[simp] theorem cT30_rep {n : Nat} {a0 : List Int} {a1 : List Int} {a2 : Int} {a3 : Int} {a4 : Int} {a5 : Int} {a6 : Int} : List.replicate n [.sl 1 (rows ci_i64 a0), .sl 1 (rows ci_i64 a1), .i .i64 a2, .i .i64 a3, .i .i64 a4, .i .i64 a5, .i .i64 a6] = rows cT30 (List.replicate n (⟨a0, a1, a2, a3, a4, a5, a6⟩ : T30)) := rows_rep (c := cT30) (x := (⟨a0, a1, a2, a3, a4, a5, a6⟩ : T30))
theorem cT30_inj (x y : T30) (h : cT30 x = cT30 y) : x = y := by
  obtain ⟨i27, i28, i29, i30, i31, i32, i33⟩ := x
  obtain ⟨i34, i35, i36, i37, i38, i39, i40⟩ := y
  simp only [cT30, List.cons.injEq, V.i.injEq, V.b.injEq, V.f.injEq, V.str.injEq, V.sl.injEq, V.own.injEq, true_and, and_true] at h
  simp_all [ri ci_i64_inj]
@[simp] def cl_ci_i64 (x : List Int) : List V := [.sl 1 (rows ci_i64 x)]
instance : Snp cl_ci_i64 := ⟨fun x => by simp, fun x => by simp⟩
@[simp] theorem cl_ci_i64_len {x : List Int} : (cl_ci_i64 x).length = 1 := rfl
@[simp] theorem cl_ci_i64_set {xs : List (List Int)} {i : Nat} {a : List Int} : (rows cl_ci_i64 xs).set i [.sl 1 (rows ci_i64 a)] = rows cl_ci_i64 (xs.set i a) := rows_set (c := cl_ci_i64) (x := a)
@[simp] theorem cl_ci_i64_snoc {xs : List (List Int)} {a : List Int} : rows cl_ci_i64 xs ++ [[.sl 1 (rows ci_i64 a)]] = rows cl_ci_i64 (xs ++ [a]) := rows_snoc (c := cl_ci_i64) (x := a)
@[simp] theorem cl_ci_i64_rep {n : Nat} {a : List Int} : List.replicate n [.sl 1 (rows ci_i64 a)] = rows cl_ci_i64 (List.replicate n a) := rows_rep (c := cl_ci_i64) (x := a)
theorem cl_ci_i64_inj (x y : List Int) (h : cl_ci_i64 x = cl_ci_i64 y) : x = y := by
  simp only [cl_ci_i64, List.cons.injEq, V.i.injEq, V.b.injEq, V.f.injEq, V.str.injEq, V.sl.injEq, V.own.injEq, true_and, and_true] at h
  simp_all [ri ci_i64_inj]
@[simp] def cl_ci_i64o (x : List Int) : List V := [.own 1 (rows ci_i64 x)]
instance : Pow cl_ci_i64o := ⟨fun x => by simp⟩
@[simp] theorem cl_ci_i64o_unE {xs : List (List Int)} : unE (rows cl_ci_i64o xs) = rows cl_ci_i64 xs := by
  induction xs with
  | nil => rfl
  | cons x xs ih => simp [ih]
@[simp] theorem cl_ci_i64o_frzE {xs : List (List Int)} : frzE (rows cl_ci_i64o xs) = rows cl_ci_i64 xs := by
  induction xs with
  | nil => rfl
  | cons x xs ih => simp [ih, frzE, frzL, frz]
@[simp] theorem cl_ci_i64o_rep0 {n : Nat} : List.replicate n [V.own 1 []] = rows cl_ci_i64o (List.replicate n []) := by simp [rows]
@[simp] theorem cl_ci_i64o_len {x : List Int} : (cl_ci_i64o x).length = 1 := rfl
@[simp] theorem cl_ci_i64o_set {xs : List (List Int)} {i : Nat} {a : List Int} : (rows cl_ci_i64o xs).set i [.own 1 (rows ci_i64 a)] = rows cl_ci_i64o (xs.set i a) := rows_set (c := cl_ci_i64o) (x := a)
@[simp] theorem cl_ci_i64o_snoc {xs : List (List Int)} {a : List Int} : rows cl_ci_i64o xs ++ [[.own 1 (rows ci_i64 a)]] = rows cl_ci_i64o (xs ++ [a]) := rows_snoc (c := cl_ci_i64o) (x := a)
@[simp] theorem cl_ci_i64o_rep {n : Nat} {a : List Int} : List.replicate n [.own 1 (rows ci_i64 a)] = rows cl_ci_i64o (List.replicate n a) := rows_rep (c := cl_ci_i64o) (x := a)
theorem cl_ci_i64o_inj (x y : List Int) (h : cl_ci_i64o x = cl_ci_i64o y) : x = y := by
  simp only [cl_ci_i64o, List.cons.injEq, V.i.injEq, V.b.injEq, V.f.injEq, V.str.injEq, V.sl.injEq, V.own.injEq, true_and, and_true] at h
  simp_all [ri ci_i64_inj]
end Go.Proofs.Ytiiejiobkfakeaa
