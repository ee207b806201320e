/- The types of the seat. -/
import Derived.Test.YtboeddbhfnlpaaaVxShort
import Derived.Test.YtboeddbhfnlpaaaProg
import Derived.KernelRfl
namespace Go.Proofs.Ytboeddbhfnlpaaa
open Go.RowKit Go.VL
set_option linter.unusedSimpArgs false
set_option linter.unusedVariables false
set_option maxHeartbeats 40000000
set_option maxRecDepth 100000
@[simp] theorem tk_2 : tk Try.prog 2 = .int .i64 := by kernel_rfl
@[simp] theorem co_2 : Try.prog.cellsOf 2 = 1 := by kernel_rfl
@[simp] theorem cz_2 : csz Try.prog 2 = 1 := by kernel_rfl
@[simp] theorem ag_2 : aggB Try.prog 2 = false := by kernel_rfl
@[simp] theorem ze_2 : zeroV Try.prog 2 = some [.int .i64 0] := by kernel_rfl
@[simp] theorem by_2 : Try.prog.bytesOf 2 = 8 := by kernel_rfl
@[simp] theorem tk_3 : tk Try.prog 3 = .int .i64 := by kernel_rfl
@[simp] theorem co_3 : Try.prog.cellsOf 3 = 1 := by kernel_rfl
@[simp] theorem cz_3 : csz Try.prog 3 = 1 := by kernel_rfl
@[simp] theorem ag_3 : aggB Try.prog 3 = false := by kernel_rfl
@[simp] theorem ze_3 : zeroV Try.prog 3 = some [.int .i64 0] := by kernel_rfl
@[simp] theorem by_3 : Try.prog.bytesOf 3 = 8 := by kernel_rfl
@[simp] theorem tk_4 : tk Try.prog 4 = .bool := by kernel_rfl
@[simp] theorem co_4 : Try.prog.cellsOf 4 = 1 := by kernel_rfl
@[simp] theorem cz_4 : csz Try.prog 4 = 1 := by kernel_rfl
@[simp] theorem ag_4 : aggB Try.prog 4 = false := by kernel_rfl
@[simp] theorem ze_4 : zeroV Try.prog 4 = some [.bool false] := by kernel_rfl
@[simp] theorem by_4 : Try.prog.bytesOf 4 = 1 := by kernel_rfl
@[simp] theorem tk_22 : tk Try.prog 22 = .slice 2 := by kernel_rfl
@[simp] theorem co_22 : Try.prog.cellsOf 22 = 1 := by kernel_rfl
@[simp] theorem cz_22 : csz Try.prog 22 = 1 := by kernel_rfl
@[simp] theorem ag_22 : aggB Try.prog 22 = false := by kernel_rfl
@[simp] theorem ze_22 : zeroV Try.prog 22 = some [.slice none 0 0] := by kernel_rfl
@[simp] theorem by_22 : Try.prog.bytesOf 22 = 24 := by kernel_rfl
@[simp] theorem tk_24 : tk Try.prog 24 = .struct [(0, 1, false), (1, 1, false), (2, 1, false), (3, 1, false), (4, 1, false), (5, 1, false), (6, 1, false)] := by kernel_rfl
@[simp] theorem co_24 : Try.prog.cellsOf 24 = 7 := by kernel_rfl
@[simp] theorem cz_24 : csz Try.prog 24 = 7 := by kernel_rfl
@[simp] theorem ag_24 : aggB Try.prog 24 = true := by kernel_rfl
@[simp] theorem ze_24 : zeroV Try.prog 24 = some [.slice none 0 0, .slice none 0 0, .int .i64 0, .int .i64 0, .int .i64 0, .int .i64 0, .int .i64 0] := by kernel_rfl
@[simp] theorem by_24 : Try.prog.bytesOf 24 = 88 := by kernel_rfl
@[simp] theorem tk_26 : tk Try.prog 26 = .slice 22 := by kernel_rfl
@[simp] theorem co_26 : Try.prog.cellsOf 26 = 1 := by kernel_rfl
@[simp] theorem cz_26 : csz Try.prog 26 = 1 := by kernel_rfl
@[simp] theorem ag_26 : aggB Try.prog 26 = false := by kernel_rfl
@[simp] theorem ze_26 : zeroV Try.prog 26 = some [.slice none 0 0] := by kernel_rfl
@[simp] theorem by_26 : Try.prog.bytesOf 26 = 24 := by kernel_rfl
@[simp] theorem tk_29 : tk Try.prog 29 = .struct [(0, 1, false), (1, 1, false), (2, 1, false), (3, 1, false), (4, 1, false), (5, 1, false), (6, 1, false)] := by kernel_rfl
@[simp] theorem co_29 : Try.prog.cellsOf 29 = 7 := by kernel_rfl
@[simp] theorem cz_29 : csz Try.prog 29 = 7 := by kernel_rfl
@[simp] theorem ag_29 : aggB Try.prog 29 = true := by kernel_rfl
@[simp] theorem ze_29 : zeroV Try.prog 29 = some [.slice none 0 0, .slice none 0 0, .int .i64 0, .int .i64 0, .int .i64 0, .int .i64 0, .int .i64 0] := by kernel_rfl
@[simp] theorem by_29 : Try.prog.bytesOf 29 = 88 := by kernel_rfl
@[simp] theorem tk_53 : tk Try.prog 53 = .ptr 29 := by kernel_rfl
@[simp] theorem co_53 : Try.prog.cellsOf 53 = 1 := by kernel_rfl
@[simp] theorem cz_53 : csz Try.prog 53 = 1 := by kernel_rfl
@[simp] theorem ag_53 : aggB Try.prog 53 = false := by kernel_rfl
@[simp] theorem ze_53 : zeroV Try.prog 53 = some [.pointer none] := by kernel_rfl
@[simp] theorem by_53 : Try.prog.bytesOf 53 = 8 := by kernel_rfl
theorem mixed : Try.prog.follows .mixedOrders = true := by kernel_rfl
@[simp] def ci_i64 (x : Int) : List V := [.i .i64 x]
instance : Pln ci_i64 := ⟨fun x => by simp⟩
@[simp] theorem ci_i64_len {x : Int} : (ci_i64 x).length = 1 := rfl
@[simp] theorem ci_i64_set {xs : List Int} {i : Nat} {a : Int} : (rows ci_i64 xs).set i [.i .i64 a] = rows ci_i64 (xs.set i a) := rows_set (c := ci_i64) (x := a)
@[simp] theorem ci_i64_snoc {xs : List Int} {a : Int} : rows ci_i64 xs ++ [[.i .i64 a]] = rows ci_i64 (xs ++ [a]) := rows_snoc (c := ci_i64) (x := a)
@[simp] theorem ci_i64_rep {n : Nat} {a : Int} : List.replicate n [.i .i64 a] = rows ci_i64 (List.replicate n a) := rows_rep (c := ci_i64) (x := a)
theorem ci_i64_inj (x y : Int) (h : ci_i64 x = ci_i64 y) : x = y := by
  simp only [ci_i64, List.cons.injEq, V.i.injEq, V.b.injEq, V.f.injEq, V.str.injEq, V.sl.injEq, V.own.injEq, true_and, and_true] at h
  simp_all
structure T23 where
  need_ : List Int
  price_ : List Int
  most_ : Int
  yield_ : Int
  store_ : Int
  first_ : Int
  loss_ : Int
def pT23 (x : T23) : List V := [.sl 1 (rows ci_i64 x.need_), .sl 1 (rows ci_i64 x.price_), .i .i64 x.most_, .i .i64 x.yield_, .i .i64 x.store_, .i .i64 x.first_, .i .i64 x.loss_]
section
variable {x : T23}
@[simp] theorem pT23_len : (pT23 x).length = 7 := rfl
@[simp] theorem pT23_0 : (pT23 x)[0]? = some (.sl 1 (rows ci_i64 x.need_)) := rfl
@[simp] theorem pT23_g0 (h : 0 < (pT23 x).length) : (pT23 x)[0] = .sl 1 (rows ci_i64 x.need_) := rfl
@[simp] theorem pT23_1 : (pT23 x)[1]? = some (.sl 1 (rows ci_i64 x.price_)) := rfl
@[simp] theorem pT23_g1 (h : 1 < (pT23 x).length) : (pT23 x)[1] = .sl 1 (rows ci_i64 x.price_) := rfl
@[simp] theorem pT23_2 : (pT23 x)[2]? = some (.i .i64 x.most_) := rfl
@[simp] theorem pT23_g2 (h : 2 < (pT23 x).length) : (pT23 x)[2] = .i .i64 x.most_ := rfl
@[simp] theorem pT23_3 : (pT23 x)[3]? = some (.i .i64 x.yield_) := rfl
@[simp] theorem pT23_g3 (h : 3 < (pT23 x).length) : (pT23 x)[3] = .i .i64 x.yield_ := rfl
@[simp] theorem pT23_4 : (pT23 x)[4]? = some (.i .i64 x.store_) := rfl
@[simp] theorem pT23_g4 (h : 4 < (pT23 x).length) : (pT23 x)[4] = .i .i64 x.store_ := rfl
@[simp] theorem pT23_5 : (pT23 x)[5]? = some (.i .i64 x.first_) := rfl
@[simp] theorem pT23_g5 (h : 5 < (pT23 x).length) : (pT23 x)[5] = .i .i64 x.first_ := rfl
@[simp] theorem pT23_6 : (pT23 x)[6]? = some (.i .i64 x.loss_) := rfl
@[simp] theorem pT23_g6 (h : 6 < (pT23 x).length) : (pT23 x)[6] = .i .i64 x.loss_ := rfl
@[simp] theorem pT23_un1 : (pT23 x).map un1 = pT23 x := rfl
@[simp] theorem pT23_snap : snapL (pT23 x) = true := by simp [pT23]
@[simp] theorem pT23_cell : (pT23 x).all cellV = true := by simp [pT23]
@[simp high] theorem pT23_vc : vcells (.agg (pT23 x)) = some (pT23 x) := by simp [pT23]
@[simp] theorem pT23_noB {b : Nat} : (pT23 x).all (noBV b) = true := by simp [pT23]
@[simp] theorem pT23_bnd {k : Nat} : (pT23 x).all (bndV k) = true := by simp [pT23, bndV]
@[simp] theorem pT23_re {m : VM} : vreL1 m (pT23 x) = some (pT23 x) := by simp [pT23]
end
@[simp] def cT23 (x : T23) : List V := [.sl 1 (rows ci_i64 x.need_), .sl 1 (rows ci_i64 x.price_), .i .i64 x.most_, .i .i64 x.yield_, .i .i64 x.store_, .i .i64 x.first_, .i .i64 x.loss_]
instance : Snp cT23 := ⟨fun x => by simp, fun x => by simp⟩
@[simp] theorem cT23_len {x : T23} : (cT23 x).length = 7 := rfl
@[simp] theorem cT23_set {xs : List T23} {i : Nat} {a0 : List Int} {a1 : List Int} {a2 : Int} {a3 : Int} {a4 : Int} {a5 : Int} {a6 : Int} : (rows cT23 xs).set i [.sl 1 (rows ci_i64 a0), .sl 1 (rows ci_i64 a1), .i .i64 a2, .i .i64 a3, .i .i64 a4, .i .i64 a5, .i .i64 a6] = rows cT23 (xs.set i (⟨a0, a1, a2, a3, a4, a5, a6⟩ : T23)) := rows_set (c := cT23) (x := (⟨a0, a1, a2, a3, a4, a5, a6⟩ : T23))
@[simp] theorem cT23_snoc {xs : List T23} {a0 : List Int} {a1 : List Int} {a2 : Int} {a3 : Int} {a4 : Int} {a5 : Int} {a6 : Int} : rows cT23 xs ++ [[.sl 1 (rows ci_i64 a0), .sl 1 (rows ci_i64 a1), .i .i64 a2, .i .i64 a3, .i .i64 a4, .i .i64 a5, .i .i64 a6]] = rows cT23 (xs ++ [(⟨a0, a1, a2, a3, a4, a5, a6⟩ : T23)]) := rows_snoc (c := cT23) (x := (⟨a0, a1, a2, a3, a4, a5, a6⟩ : T23))
@[simp] theorem cT23_rep {n : Nat} {a0 : List Int} {a1 : List Int} {a2 : Int} {a3 : Int} {a4 : Int} {a5 : Int} {a6 : Int} : List.replicate n [.sl 1 (rows ci_i64 a0), .sl 1 (rows ci_i64 a1), .i .i64 a2, .i .i64 a3, .i .i64 a4, .i .i64 a5, .i .i64 a6] = rows cT23 (List.replicate n (⟨a0, a1, a2, a3, a4, a5, a6⟩ : T23)) := rows_rep (c := cT23) (x := (⟨a0, a1, a2, a3, a4, a5, a6⟩ : T23))
theorem cT23_inj (x y : T23) (h : cT23 x = cT23 y) : x = y := by
  obtain ⟨i5, i6, i7, i8, i9, i10, i11⟩ := x
  obtain ⟨i12, i13, i14, i15, i16, i17, i18⟩ := y
  simp only [cT23, List.cons.injEq, V.i.injEq, V.b.injEq, V.f.injEq, V.str.injEq, V.sl.injEq, V.own.injEq, true_and, and_true] at h
  simp_all [ri ci_i64_inj]
@[simp] def cl_ci_i64 (x : List Int) : List V := [.sl 1 (rows ci_i64 x)]
instance : Snp cl_ci_i64 := ⟨fun x => by simp, fun x => by simp⟩
@[simp] theorem cl_ci_i64_len {x : List Int} : (cl_ci_i64 x).length = 1 := rfl
@[simp] theorem cl_ci_i64_set {xs : List (List Int)} {i : Nat} {a : List Int} : (rows cl_ci_i64 xs).set i [.sl 1 (rows ci_i64 a)] = rows cl_ci_i64 (xs.set i a) := rows_set (c := cl_ci_i64) (x := a)
@[simp] theorem cl_ci_i64_snoc {xs : List (List Int)} {a : List Int} : rows cl_ci_i64 xs ++ [[.sl 1 (rows ci_i64 a)]] = rows cl_ci_i64 (xs ++ [a]) := rows_snoc (c := cl_ci_i64) (x := a)
@[simp] theorem cl_ci_i64_rep {n : Nat} {a : List Int} : List.replicate n [.sl 1 (rows ci_i64 a)] = rows cl_ci_i64 (List.replicate n a) := rows_rep (c := cl_ci_i64) (x := a)
theorem cl_ci_i64_inj (x y : List Int) (h : cl_ci_i64 x = cl_ci_i64 y) : x = y := by
  simp only [cl_ci_i64, List.cons.injEq, V.i.injEq, V.b.injEq, V.f.injEq, V.str.injEq, V.sl.injEq, V.own.injEq, true_and, and_true] at h
  simp_all [ri ci_i64_inj]
@[simp] def cl_ci_i64o (x : List Int) : List V := [.own 1 (rows ci_i64 x)]
instance : Pow cl_ci_i64o := ⟨fun x => by simp⟩
@[simp] theorem cl_ci_i64o_unE {xs : List (List Int)} : unE (rows cl_ci_i64o xs) = rows cl_ci_i64 xs := by
  induction xs with
  | nil => rfl
  | cons x xs ih => simp [ih]
@[simp] theorem cl_ci_i64o_frzE {xs : List (List Int)} : frzE (rows cl_ci_i64o xs) = rows cl_ci_i64 xs := by
  induction xs with
  | nil => rfl
  | cons x xs ih => simp [ih, frzE, frzL, frz]
@[simp] theorem cl_ci_i64o_rep0 {n : Nat} : List.replicate n [V.own 1 []] = rows cl_ci_i64o (List.replicate n []) := by simp [rows]
@[simp] theorem cl_ci_i64o_len {x : List Int} : (cl_ci_i64o x).length = 1 := rfl
@[simp] theorem cl_ci_i64o_set {xs : List (List Int)} {i : Nat} {a : List Int} : (rows cl_ci_i64o xs).set i [.own 1 (rows ci_i64 a)] = rows cl_ci_i64o (xs.set i a) := rows_set (c := cl_ci_i64o) (x := a)
@[simp] theorem cl_ci_i64o_snoc {xs : List (List Int)} {a : List Int} : rows cl_ci_i64o xs ++ [[.own 1 (rows ci_i64 a)]] = rows cl_ci_i64o (xs ++ [a]) := rows_snoc (c := cl_ci_i64o) (x := a)
@[simp] theorem cl_ci_i64o_rep {n : Nat} {a : List Int} : List.replicate n [.own 1 (rows ci_i64 a)] = rows cl_ci_i64o (List.replicate n a) := rows_rep (c := cl_ci_i64o) (x := a)
theorem cl_ci_i64o_inj (x y : List Int) (h : cl_ci_i64o x = cl_ci_i64o y) : x = y := by
  simp only [cl_ci_i64o, List.cons.injEq, V.i.injEq, V.b.injEq, V.f.injEq, V.str.injEq, V.sl.injEq, V.own.injEq, true_and, and_true] at h
  simp_all [ri ci_i64_inj]
end Go.Proofs.Ytboeddbhfnlpaaa
