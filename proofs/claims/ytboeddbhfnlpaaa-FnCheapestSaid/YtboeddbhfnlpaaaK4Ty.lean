/- The types of the seat. -/
import Derived.Test.YtboeddbhfnlpaaaVxShort
import Derived.Test.YtboeddbhfnlpaaaProg
import Derived.KernelRfl
namespace Go.Proofs.Ytboeddbhfnlpaaa
open Go.RowKit Go.VL
set_option linter.unusedSimpArgs false
set_option linter.unusedVariables false
set_option maxHeartbeats 40000000
set_option maxRecDepth 100000
@[simp] theorem tk_2 : tk Try.prog 2 = .int .i64 := by kernel_rfl
@[simp] theorem co_2 : Try.prog.cellsOf 2 = 1 := by kernel_rfl
@[simp] theorem cz_2 : csz Try.prog 2 = 1 := by kernel_rfl
@[simp] theorem ag_2 : aggB Try.prog 2 = false := by kernel_rfl
@[simp] theorem ze_2 : zeroV Try.prog 2 = some [.int .i64 0] := by kernel_rfl
@[simp] theorem by_2 : Try.prog.bytesOf 2 = 8 := by kernel_rfl
@[simp] theorem tk_3 : tk Try.prog 3 = .int .i64 := by kernel_rfl
@[simp] theorem co_3 : Try.prog.cellsOf 3 = 1 := by kernel_rfl
@[simp] theorem cz_3 : csz Try.prog 3 = 1 := by kernel_rfl
@[simp] theorem ag_3 : aggB Try.prog 3 = false := by kernel_rfl
@[simp] theorem ze_3 : zeroV Try.prog 3 = some [.int .i64 0] := by kernel_rfl
@[simp] theorem by_3 : Try.prog.bytesOf 3 = 8 := by kernel_rfl
@[simp] theorem tk_4 : tk Try.prog 4 = .bool := by kernel_rfl
@[simp] theorem co_4 : Try.prog.cellsOf 4 = 1 := by kernel_rfl
@[simp] theorem cz_4 : csz Try.prog 4 = 1 := by kernel_rfl
@[simp] theorem ag_4 : aggB Try.prog 4 = false := by kernel_rfl
@[simp] theorem ze_4 : zeroV Try.prog 4 = some [.bool false] := by kernel_rfl
@[simp] theorem by_4 : Try.prog.bytesOf 4 = 1 := by kernel_rfl
@[simp] theorem tk_5 : tk Try.prog 5 = .int .u8 := by kernel_rfl
@[simp] theorem co_5 : Try.prog.cellsOf 5 = 1 := by kernel_rfl
@[simp] theorem cz_5 : csz Try.prog 5 = 1 := by kernel_rfl
@[simp] theorem ag_5 : aggB Try.prog 5 = false := by kernel_rfl
@[simp] theorem ze_5 : zeroV Try.prog 5 = some [.int .u8 0] := by kernel_rfl
@[simp] theorem by_5 : Try.prog.bytesOf 5 = 1 := by kernel_rfl
@[simp] theorem tk_22 : tk Try.prog 22 = .slice 2 := by kernel_rfl
@[simp] theorem co_22 : Try.prog.cellsOf 22 = 1 := by kernel_rfl
@[simp] theorem cz_22 : csz Try.prog 22 = 1 := by kernel_rfl
@[simp] theorem ag_22 : aggB Try.prog 22 = false := by kernel_rfl
@[simp] theorem ze_22 : zeroV Try.prog 22 = some [.slice none 0 0] := by kernel_rfl
@[simp] theorem by_22 : Try.prog.bytesOf 22 = 24 := by kernel_rfl
@[simp] theorem tk_26 : tk Try.prog 26 = .slice 22 := by kernel_rfl
@[simp] theorem co_26 : Try.prog.cellsOf 26 = 1 := by kernel_rfl
@[simp] theorem cz_26 : csz Try.prog 26 = 1 := by kernel_rfl
@[simp] theorem ag_26 : aggB Try.prog 26 = false := by kernel_rfl
@[simp] theorem ze_26 : zeroV Try.prog 26 = some [.slice none 0 0] := by kernel_rfl
@[simp] theorem by_26 : Try.prog.bytesOf 26 = 24 := by kernel_rfl
@[simp] theorem tk_29 : tk Try.prog 29 = .struct [(0, 1, false), (1, 1, false), (2, 1, false), (3, 1, false), (4, 1, false), (5, 1, false), (6, 1, false)] := by kernel_rfl
@[simp] theorem co_29 : Try.prog.cellsOf 29 = 7 := by kernel_rfl
@[simp] theorem cz_29 : csz Try.prog 29 = 7 := by kernel_rfl
@[simp] theorem ag_29 : aggB Try.prog 29 = true := by kernel_rfl
@[simp] theorem ze_29 : zeroV Try.prog 29 = some [.slice none 0 0, .slice none 0 0, .int .i64 0, .int .i64 0, .int .i64 0, .int .i64 0, .int .i64 0] := by kernel_rfl
@[simp] theorem by_29 : Try.prog.bytesOf 29 = 88 := by kernel_rfl
@[simp] theorem tk_36 : tk Try.prog 36 = .slice 5 := by kernel_rfl
@[simp] theorem co_36 : Try.prog.cellsOf 36 = 1 := by kernel_rfl
@[simp] theorem cz_36 : csz Try.prog 36 = 1 := by kernel_rfl
@[simp] theorem ag_36 : aggB Try.prog 36 = false := by kernel_rfl
@[simp] theorem ze_36 : zeroV Try.prog 36 = some [.slice none 0 0] := by kernel_rfl
@[simp] theorem by_36 : Try.prog.bytesOf 36 = 24 := by kernel_rfl
@[simp] theorem tk_53 : tk Try.prog 53 = .ptr 29 := by kernel_rfl
@[simp] theorem co_53 : Try.prog.cellsOf 53 = 1 := by kernel_rfl
@[simp] theorem cz_53 : csz Try.prog 53 = 1 := by kernel_rfl
@[simp] theorem ag_53 : aggB Try.prog 53 = false := by kernel_rfl
@[simp] theorem ze_53 : zeroV Try.prog 53 = some [.pointer none] := by kernel_rfl
@[simp] theorem by_53 : Try.prog.bytesOf 53 = 8 := by kernel_rfl
@[simp] theorem tk_59 : tk Try.prog 59 = .ptr 76 := by kernel_rfl
@[simp] theorem co_59 : Try.prog.cellsOf 59 = 1 := by kernel_rfl
@[simp] theorem cz_59 : csz Try.prog 59 = 1 := by kernel_rfl
@[simp] theorem ag_59 : aggB Try.prog 59 = false := by kernel_rfl
@[simp] theorem ze_59 : zeroV Try.prog 59 = some [.pointer none] := by kernel_rfl
@[simp] theorem by_59 : Try.prog.bytesOf 59 = 8 := by kernel_rfl
@[simp] theorem tk_74 : tk Try.prog 74 = .int .u64 := by kernel_rfl
@[simp] theorem co_74 : Try.prog.cellsOf 74 = 1 := by kernel_rfl
@[simp] theorem cz_74 : csz Try.prog 74 = 1 := by kernel_rfl
@[simp] theorem ag_74 : aggB Try.prog 74 = false := by kernel_rfl
@[simp] theorem ze_74 : zeroV Try.prog 74 = some [.int .u64 0] := by kernel_rfl
@[simp] theorem by_74 : Try.prog.bytesOf 74 = 8 := by kernel_rfl
@[simp] theorem tk_76 : tk Try.prog 76 = .struct [(0, 1, false), (1, 1, false), (2, 1, false)] := by kernel_rfl
@[simp] theorem co_76 : Try.prog.cellsOf 76 = 3 := by kernel_rfl
@[simp] theorem cz_76 : csz Try.prog 76 = 3 := by kernel_rfl
@[simp] theorem ag_76 : aggB Try.prog 76 = true := by kernel_rfl
@[simp] theorem ze_76 : zeroV Try.prog 76 = some [.slice none 0 0, .int .i64 0, .int .u64 0] := by kernel_rfl
@[simp] theorem by_76 : Try.prog.bytesOf 76 = 40 := by kernel_rfl
theorem mixed : Try.prog.follows .mixedOrders = true := by kernel_rfl
@[simp] def ci_i64 (x : Int) : List V := [.i .i64 x]
instance : Pln ci_i64 := ⟨fun x => by simp⟩
@[simp] theorem ci_i64_len {x : Int} : (ci_i64 x).length = 1 := rfl
@[simp] theorem ci_i64_set {xs : List Int} {i : Nat} {a : Int} : (rows ci_i64 xs).set i [.i .i64 a] = rows ci_i64 (xs.set i a) := rows_set (c := ci_i64) (x := a)
@[simp] theorem ci_i64_snoc {xs : List Int} {a : Int} : rows ci_i64 xs ++ [[.i .i64 a]] = rows ci_i64 (xs ++ [a]) := rows_snoc (c := ci_i64) (x := a)
@[simp] theorem ci_i64_rep {n : Nat} {a : Int} : List.replicate n [.i .i64 a] = rows ci_i64 (List.replicate n a) := rows_rep (c := ci_i64) (x := a)
theorem ci_i64_inj (x y : Int) (h : ci_i64 x = ci_i64 y) : x = y := by
  simp only [ci_i64, List.cons.injEq, V.i.injEq, V.b.injEq, V.f.injEq, V.str.injEq, V.sl.injEq, V.own.injEq, true_and, and_true] at h
  simp_all
structure T23 where
  need_ : List Int
  price_ : List Int
  most_ : Int
  yield_ : Int
  store_ : Int
  first_ : Int
  loss_ : Int
def pT23 (x : T23) : List V := [.sl 1 (rows ci_i64 x.need_), .sl 1 (rows ci_i64 x.price_), .i .i64 x.most_, .i .i64 x.yield_, .i .i64 x.store_, .i .i64 x.first_, .i .i64 x.loss_]
section
variable {x : T23}
@[simp] theorem pT23_len : (pT23 x).length = 7 := rfl
@[simp] theorem pT23_0 : (pT23 x)[0]? = some (.sl 1 (rows ci_i64 x.need_)) := rfl
@[simp] theorem pT23_g0 (h : 0 < (pT23 x).length) : (pT23 x)[0] = .sl 1 (rows ci_i64 x.need_) := rfl
@[simp] theorem pT23_1 : (pT23 x)[1]? = some (.sl 1 (rows ci_i64 x.price_)) := rfl
@[simp] theorem pT23_g1 (h : 1 < (pT23 x).length) : (pT23 x)[1] = .sl 1 (rows ci_i64 x.price_) := rfl
@[simp] theorem pT23_2 : (pT23 x)[2]? = some (.i .i64 x.most_) := rfl
@[simp] theorem pT23_g2 (h : 2 < (pT23 x).length) : (pT23 x)[2] = .i .i64 x.most_ := rfl
@[simp] theorem pT23_3 : (pT23 x)[3]? = some (.i .i64 x.yield_) := rfl
@[simp] theorem pT23_g3 (h : 3 < (pT23 x).length) : (pT23 x)[3] = .i .i64 x.yield_ := rfl
@[simp] theorem pT23_4 : (pT23 x)[4]? = some (.i .i64 x.store_) := rfl
@[simp] theorem pT23_g4 (h : 4 < (pT23 x).length) : (pT23 x)[4] = .i .i64 x.store_ := rfl
@[simp] theorem pT23_5 : (pT23 x)[5]? = some (.i .i64 x.first_) := rfl
@[simp] theorem pT23_g5 (h : 5 < (pT23 x).length) : (pT23 x)[5] = .i .i64 x.first_ := rfl
@[simp] theorem pT23_6 : (pT23 x)[6]? = some (.i .i64 x.loss_) := rfl
@[simp] theorem pT23_g6 (h : 6 < (pT23 x).length) : (pT23 x)[6] = .i .i64 x.loss_ := rfl
@[simp] theorem pT23_un1 : (pT23 x).map un1 = pT23 x := rfl
@[simp] theorem pT23_snap : snapL (pT23 x) = true := by simp [pT23]
@[simp] theorem pT23_cell : (pT23 x).all cellV = true := by simp [pT23]
@[simp high] theorem pT23_vc : vcells (.agg (pT23 x)) = some (pT23 x) := by simp [pT23]
@[simp] theorem pT23_noB {b : Nat} : (pT23 x).all (noBV b) = true := by simp [pT23]
@[simp] theorem pT23_bnd {k : Nat} : (pT23 x).all (bndV k) = true := by simp [pT23, bndV]
@[simp] theorem pT23_re {m : VM} : vreL1 m (pT23 x) = some (pT23 x) := by simp [pT23]
end
@[simp] def cl_ci_i64 (x : List Int) : List V := [.sl 1 (rows ci_i64 x)]
instance : Snp cl_ci_i64 := ⟨fun x => by simp, fun x => by simp⟩
@[simp] theorem cl_ci_i64_len {x : List Int} : (cl_ci_i64 x).length = 1 := rfl
@[simp] theorem cl_ci_i64_set {xs : List (List Int)} {i : Nat} {a : List Int} : (rows cl_ci_i64 xs).set i [.sl 1 (rows ci_i64 a)] = rows cl_ci_i64 (xs.set i a) := rows_set (c := cl_ci_i64) (x := a)
@[simp] theorem cl_ci_i64_snoc {xs : List (List Int)} {a : List Int} : rows cl_ci_i64 xs ++ [[.sl 1 (rows ci_i64 a)]] = rows cl_ci_i64 (xs ++ [a]) := rows_snoc (c := cl_ci_i64) (x := a)
@[simp] theorem cl_ci_i64_rep {n : Nat} {a : List Int} : List.replicate n [.sl 1 (rows ci_i64 a)] = rows cl_ci_i64 (List.replicate n a) := rows_rep (c := cl_ci_i64) (x := a)
theorem cl_ci_i64_inj (x y : List Int) (h : cl_ci_i64 x = cl_ci_i64 y) : x = y := by
  simp only [cl_ci_i64, List.cons.injEq, V.i.injEq, V.b.injEq, V.f.injEq, V.str.injEq, V.sl.injEq, V.own.injEq, true_and, and_true] at h
  simp_all [ri ci_i64_inj]
@[simp] def cl_ci_i64o (x : List Int) : List V := [.own 1 (rows ci_i64 x)]
instance : Pow cl_ci_i64o := ⟨fun x => by simp⟩
@[simp] theorem cl_ci_i64o_unE {xs : List (List Int)} : unE (rows cl_ci_i64o xs) = rows cl_ci_i64 xs := by
  induction xs with
  | nil => rfl
  | cons x xs ih => simp [ih]
@[simp] theorem cl_ci_i64o_frzE {xs : List (List Int)} : frzE (rows cl_ci_i64o xs) = rows cl_ci_i64 xs := by
  induction xs with
  | nil => rfl
  | cons x xs ih => simp [ih, frzE, frzL, frz]
@[simp] theorem cl_ci_i64o_rep0 {n : Nat} : List.replicate n [V.own 1 []] = rows cl_ci_i64o (List.replicate n []) := by simp [rows]
@[simp] theorem cl_ci_i64o_len {x : List Int} : (cl_ci_i64o x).length = 1 := rfl
@[simp] theorem cl_ci_i64o_set {xs : List (List Int)} {i : Nat} {a : List Int} : (rows cl_ci_i64o xs).set i [.own 1 (rows ci_i64 a)] = rows cl_ci_i64o (xs.set i a) := rows_set (c := cl_ci_i64o) (x := a)
@[simp] theorem cl_ci_i64o_snoc {xs : List (List Int)} {a : List Int} : rows cl_ci_i64o xs ++ [[.own 1 (rows ci_i64 a)]] = rows cl_ci_i64o (xs ++ [a]) := rows_snoc (c := cl_ci_i64o) (x := a)
@[simp] theorem cl_ci_i64o_rep {n : Nat} {a : List Int} : List.replicate n [.own 1 (rows ci_i64 a)] = rows cl_ci_i64o (List.replicate n a) := rows_rep (c := cl_ci_i64o) (x := a)
theorem cl_ci_i64o_inj (x y : List Int) (h : cl_ci_i64o x = cl_ci_i64o y) : x = y := by
  simp only [cl_ci_i64o, List.cons.injEq, V.i.injEq, V.b.injEq, V.f.injEq, V.str.injEq, V.sl.injEq, V.own.injEq, true_and, and_true] at h
  simp_all [ri ci_i64_inj]
@[simp] def cT23 (x : T23) : List V := [.sl 1 (rows ci_i64 x.need_), .sl 1 (rows ci_i64 x.price_), .i .i64 x.most_, .i .i64 x.yield_, .i .i64 x.store_, .i .i64 x.first_, .i .i64 x.loss_]
instance : Snp cT23 := ⟨fun x => by simp, fun x => by simp⟩
@[simp] theorem cT23_len {x : T23} : (cT23 x).length = 7 := rfl
@[simp] theorem cT23_set {xs : List T23} {i : Nat} {a0 : List Int} {a1 : List Int} {a2 : Int} {a3 : Int} {a4 : Int} {a5 : Int} {a6 : Int} : (rows cT23 xs).set i [.sl 1 (rows ci_i64 a0), .sl 1 (rows ci_i64 a1), .i .i64 a2, .i .i64 a3, .i .i64 a4, .i .i64 a5, .i .i64 a6] = rows cT23 (xs.set i (⟨a0, a1, a2, a3, a4, a5, a6⟩ : T23)) := rows_set (c := cT23) (x := (⟨a0, a1, a2, a3, a4, a5, a6⟩ : T23))
@[simp] theorem cT23_snoc {xs : List T23} {a0 : List Int} {a1 : List Int} {a2 : Int} {a3 : Int} {a4 : Int} {a5 : Int} {a6 : Int} : rows cT23 xs ++ [[.sl 1 (rows ci_i64 a0), .sl 1 (rows ci_i64 a1), .i .i64 a2, .i .i64 a3, .i .i64 a4, .i .i64 a5, .i .i64 a6]] = rows cT23 (xs ++ [(⟨a0, a1, a2, a3, a4, a5, a6⟩ : T23)]) := rows_snoc (c := cT23) (x := (⟨a0, a1, a2, a3, a4, a5, a6⟩ : T23))
@[simp] theorem cT23_rep {n : Nat} {a0 : List Int} {a1 : List Int} {a2 : Int} {a3 : Int} {a4 : Int} {a5 : Int} {a6 : Int} : List.replicate n [.sl 1 (rows ci_i64 a0), .sl 1 (rows ci_i64 a1), .i .i64 a2, .i .i64 a3, .i .i64 a4, .i .i64 a5, .i .i64 a6] = rows cT23 (List.replicate n (⟨a0, a1, a2, a3, a4, a5, a6⟩ : T23)) := rows_rep (c := cT23) (x := (⟨a0, a1, a2, a3, a4, a5, a6⟩ : T23))
theorem cT23_inj (x y : T23) (h : cT23 x = cT23 y) : x = y := by
  obtain ⟨i63, i64, i65, i66, i67, i68, i69⟩ := x
  obtain ⟨i70, i71, i72, i73, i74, i75, i76⟩ := y
  simp only [cT23, List.cons.injEq, V.i.injEq, V.b.injEq, V.f.injEq, V.str.injEq, V.sl.injEq, V.own.injEq, true_and, and_true] at h
  simp_all [ri ci_i64_inj]
@[simp] def ci_u8 (x : Int) : List V := [.i .u8 x]
@[simp] theorem ci_u8_nums {xs : List Int} : numsOf (rows ci_u8 xs) = some xs := by
  induction xs with
  | nil => rfl
  | cons x xs ih => simp [numsOf, numOf, ih]
instance : Pln ci_u8 := ⟨fun x => by simp⟩
@[simp] theorem ci_u8_len {x : Int} : (ci_u8 x).length = 1 := rfl
@[simp] theorem ci_u8_set {xs : List Int} {i : Nat} {a : Int} : (rows ci_u8 xs).set i [.i .u8 a] = rows ci_u8 (xs.set i a) := rows_set (c := ci_u8) (x := a)
@[simp] theorem ci_u8_snoc {xs : List Int} {a : Int} : rows ci_u8 xs ++ [[.i .u8 a]] = rows ci_u8 (xs ++ [a]) := rows_snoc (c := ci_u8) (x := a)
@[simp] theorem ci_u8_rep {n : Nat} {a : Int} : List.replicate n [.i .u8 a] = rows ci_u8 (List.replicate n a) := rows_rep (c := ci_u8) (x := a)
theorem ci_u8_inj (x y : Int) (h : ci_u8 x = ci_u8 y) : x = y := by
  simp only [ci_u8, List.cons.injEq, V.i.injEq, V.b.injEq, V.f.injEq, V.str.injEq, V.sl.injEq, V.own.injEq, true_and, and_true] at h
  simp_all
structure T75 where
  code_ : List Int
  at_ : Int
  seed_ : Int
def pT75 (x : T75) : List V := [.sl 1 (rows ci_u8 x.code_), .i .i64 x.at_, .i .u64 x.seed_]
section
variable {x : T75}
@[simp] theorem pT75_len : (pT75 x).length = 3 := rfl
@[simp] theorem pT75_0 : (pT75 x)[0]? = some (.sl 1 (rows ci_u8 x.code_)) := rfl
@[simp] theorem pT75_g0 (h : 0 < (pT75 x).length) : (pT75 x)[0] = .sl 1 (rows ci_u8 x.code_) := rfl
@[simp] theorem pT75_1 : (pT75 x)[1]? = some (.i .i64 x.at_) := rfl
@[simp] theorem pT75_g1 (h : 1 < (pT75 x).length) : (pT75 x)[1] = .i .i64 x.at_ := rfl
@[simp] theorem pT75_2 : (pT75 x)[2]? = some (.i .u64 x.seed_) := rfl
@[simp] theorem pT75_g2 (h : 2 < (pT75 x).length) : (pT75 x)[2] = .i .u64 x.seed_ := rfl
@[simp] theorem pT75_un1 : (pT75 x).map un1 = pT75 x := rfl
@[simp] theorem pT75_snap : snapL (pT75 x) = true := by simp [pT75]
@[simp] theorem pT75_cell : (pT75 x).all cellV = true := by simp [pT75]
@[simp high] theorem pT75_vc : vcells (.agg (pT75 x)) = some (pT75 x) := by simp [pT75]
@[simp] theorem pT75_noB {b : Nat} : (pT75 x).all (noBV b) = true := by simp [pT75]
@[simp] theorem pT75_bnd {k : Nat} : (pT75 x).all (bndV k) = true := by simp [pT75, bndV]
@[simp] theorem pT75_re {m : VM} : vreL1 m (pT75 x) = some (pT75 x) := by simp [pT75]
end
end Go.Proofs.Ytboeddbhfnlpaaa
