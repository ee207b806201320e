/- The types of the seat. -/
import Derived.Test.YtilkneilafpjiaaDoorVxParse
import Derived.Test.YtilkneilafpjiaaDoorShelf
import Derived.Test.YtilkneilafpjiaaDoorProg
import Derived.KernelRfl
namespace Go.Proofs.YtilkneilafpjiaaDoor
open Go.RowKit Go.VL
set_option linter.unusedSimpArgs false
set_option linter.unusedVariables false
set_option maxHeartbeats 40000000
set_option maxRecDepth 100000
@[simp] theorem tk_2 : tk Tryd.prog 2 = .int .i64 := by kernel_rfl
@[simp] theorem co_2 : Tryd.prog.cellsOf 2 = 1 := by kernel_rfl
@[simp] theorem cz_2 : csz Tryd.prog 2 = 1 := by kernel_rfl
@[simp] theorem ag_2 : aggB Tryd.prog 2 = false := by kernel_rfl
@[simp] theorem ze_2 : zeroV Tryd.prog 2 = some [.int .i64 0] := by kernel_rfl
@[simp] theorem by_2 : Tryd.prog.bytesOf 2 = 8 := by kernel_rfl
@[simp] theorem tk_3 : tk Tryd.prog 3 = .int .i64 := by kernel_rfl
@[simp] theorem co_3 : Tryd.prog.cellsOf 3 = 1 := by kernel_rfl
@[simp] theorem cz_3 : csz Tryd.prog 3 = 1 := by kernel_rfl
@[simp] theorem ag_3 : aggB Tryd.prog 3 = false := by kernel_rfl
@[simp] theorem ze_3 : zeroV Tryd.prog 3 = some [.int .i64 0] := by kernel_rfl
@[simp] theorem by_3 : Tryd.prog.bytesOf 3 = 8 := by kernel_rfl
@[simp] theorem tk_4 : tk Tryd.prog 4 = .bool := by kernel_rfl
@[simp] theorem co_4 : Tryd.prog.cellsOf 4 = 1 := by kernel_rfl
@[simp] theorem cz_4 : csz Tryd.prog 4 = 1 := by kernel_rfl
@[simp] theorem ag_4 : aggB Tryd.prog 4 = false := by kernel_rfl
@[simp] theorem ze_4 : zeroV Tryd.prog 4 = some [.bool false] := by kernel_rfl
@[simp] theorem by_4 : Tryd.prog.bytesOf 4 = 1 := by kernel_rfl
@[simp] theorem tk_5 : tk Tryd.prog 5 = .int .u8 := by kernel_rfl
@[simp] theorem co_5 : Tryd.prog.cellsOf 5 = 1 := by kernel_rfl
@[simp] theorem cz_5 : csz Tryd.prog 5 = 1 := by kernel_rfl
@[simp] theorem ag_5 : aggB Tryd.prog 5 = false := by kernel_rfl
@[simp] theorem ze_5 : zeroV Tryd.prog 5 = some [.int .u8 0] := by kernel_rfl
@[simp] theorem by_5 : Tryd.prog.bytesOf 5 = 1 := by kernel_rfl
@[simp] theorem tk_9 : tk Tryd.prog 9 = .str := by kernel_rfl
@[simp] theorem co_9 : Tryd.prog.cellsOf 9 = 1 := by kernel_rfl
@[simp] theorem cz_9 : csz Tryd.prog 9 = 1 := by kernel_rfl
@[simp] theorem ag_9 : aggB Tryd.prog 9 = false := by kernel_rfl
@[simp] theorem ze_9 : zeroV Tryd.prog 9 = some [.string ByteArray.empty] := by kernel_rfl
@[simp] theorem by_9 : Tryd.prog.bytesOf 9 = 16 := by kernel_rfl
@[simp] theorem tk_25 : tk Tryd.prog 25 = .struct [(0, 1, false), (1, 1, false), (2, 1, false)] := by kernel_rfl
@[simp] theorem co_25 : Tryd.prog.cellsOf 25 = 3 := by kernel_rfl
@[simp] theorem cz_25 : csz Tryd.prog 25 = 3 := by kernel_rfl
@[simp] theorem ag_25 : aggB Tryd.prog 25 = true := by kernel_rfl
@[simp] theorem ze_25 : zeroV Tryd.prog 25 = some [.int .i64 0, .int .i64 0, .int .i64 0] := by kernel_rfl
@[simp] theorem aeq_25 : aeqOk Tryd.prog 25 3 = true := by kernel_rfl
@[simp] theorem by_25 : Tryd.prog.bytesOf 25 = 24 := by kernel_rfl
@[simp] theorem tk_28 : tk Tryd.prog 28 = .slice 2 := by kernel_rfl
@[simp] theorem co_28 : Tryd.prog.cellsOf 28 = 1 := by kernel_rfl
@[simp] theorem cz_28 : csz Tryd.prog 28 = 1 := by kernel_rfl
@[simp] theorem ag_28 : aggB Tryd.prog 28 = false := by kernel_rfl
@[simp] theorem ze_28 : zeroV Tryd.prog 28 = some [.slice none 0 0] := by kernel_rfl
@[simp] theorem by_28 : Tryd.prog.bytesOf 28 = 24 := by kernel_rfl
@[simp] theorem tk_33 : tk Tryd.prog 33 = .struct [(0, 1, false), (1, 1, false), (2, 1, false), (3, 1, false), (4, 1, false), (5, 1, false), (6, 1, false)] := by kernel_rfl
@[simp] theorem co_33 : Tryd.prog.cellsOf 33 = 7 := by kernel_rfl
@[simp] theorem cz_33 : csz Tryd.prog 33 = 7 := by kernel_rfl
@[simp] theorem ag_33 : aggB Tryd.prog 33 = true := by kernel_rfl
@[simp] theorem ze_33 : zeroV Tryd.prog 33 = some [.slice none 0 0, .slice none 0 0, .int .i64 0, .int .i64 0, .int .i64 0, .int .i64 0, .int .i64 0] := by kernel_rfl
@[simp] theorem by_33 : Tryd.prog.bytesOf 33 = 88 := by kernel_rfl
@[simp] theorem tk_40 : tk Tryd.prog 40 = .slice 84 := by kernel_rfl
@[simp] theorem co_40 : Tryd.prog.cellsOf 40 = 1 := by kernel_rfl
@[simp] theorem cz_40 : csz Tryd.prog 40 = 1 := by kernel_rfl
@[simp] theorem ag_40 : aggB Tryd.prog 40 = false := by kernel_rfl
@[simp] theorem ze_40 : zeroV Tryd.prog 40 = some [.slice none 0 0] := by kernel_rfl
@[simp] theorem by_40 : Tryd.prog.bytesOf 40 = 24 := by kernel_rfl
@[simp] theorem tk_54 : tk Tryd.prog 54 = .slice 5 := by kernel_rfl
@[simp] theorem co_54 : Tryd.prog.cellsOf 54 = 1 := by kernel_rfl
@[simp] theorem cz_54 : csz Tryd.prog 54 = 1 := by kernel_rfl
@[simp] theorem ag_54 : aggB Tryd.prog 54 = false := by kernel_rfl
@[simp] theorem ze_54 : zeroV Tryd.prog 54 = some [.slice none 0 0] := by kernel_rfl
@[simp] theorem by_54 : Tryd.prog.bytesOf 54 = 24 := by kernel_rfl
@[simp] theorem tk_69 : tk Tryd.prog 69 = .ptr 25 := by kernel_rfl
@[simp] theorem co_69 : Tryd.prog.cellsOf 69 = 1 := by kernel_rfl
@[simp] theorem cz_69 : csz Tryd.prog 69 = 1 := by kernel_rfl
@[simp] theorem ag_69 : aggB Tryd.prog 69 = false := by kernel_rfl
@[simp] theorem ze_69 : zeroV Tryd.prog 69 = some [.pointer none] := by kernel_rfl
@[simp] theorem by_69 : Tryd.prog.bytesOf 69 = 8 := by kernel_rfl
@[simp] theorem tk_73 : tk Tryd.prog 73 = .slice 9 := by kernel_rfl
@[simp] theorem co_73 : Tryd.prog.cellsOf 73 = 1 := by kernel_rfl
@[simp] theorem cz_73 : csz Tryd.prog 73 = 1 := by kernel_rfl
@[simp] theorem ag_73 : aggB Tryd.prog 73 = false := by kernel_rfl
@[simp] theorem ze_73 : zeroV Tryd.prog 73 = some [.slice none 0 0] := by kernel_rfl
@[simp] theorem by_73 : Tryd.prog.bytesOf 73 = 24 := by kernel_rfl
@[simp] theorem tk_78 : tk Tryd.prog 78 = .ptr 33 := by kernel_rfl
@[simp] theorem co_78 : Tryd.prog.cellsOf 78 = 1 := by kernel_rfl
@[simp] theorem cz_78 : csz Tryd.prog 78 = 1 := by kernel_rfl
@[simp] theorem ag_78 : aggB Tryd.prog 78 = false := by kernel_rfl
@[simp] theorem ze_78 : zeroV Tryd.prog 78 = some [.pointer none] := by kernel_rfl
@[simp] theorem by_78 : Tryd.prog.bytesOf 78 = 8 := by kernel_rfl
@[simp] theorem tk_82 : tk Tryd.prog 82 = .int .u32 := by kernel_rfl
@[simp] theorem co_82 : Tryd.prog.cellsOf 82 = 1 := by kernel_rfl
@[simp] theorem cz_82 : csz Tryd.prog 82 = 1 := by kernel_rfl
@[simp] theorem ag_82 : aggB Tryd.prog 82 = false := by kernel_rfl
@[simp] theorem ze_82 : zeroV Tryd.prog 82 = some [.int .u32 0] := by kernel_rfl
@[simp] theorem by_82 : Tryd.prog.bytesOf 82 = 4 := by kernel_rfl
@[simp] theorem tk_84 : tk Tryd.prog 84 = .struct [(0, 1, false), (1, 1, false), (2, 3, true)] := by kernel_rfl
@[simp] theorem co_84 : Tryd.prog.cellsOf 84 = 5 := by kernel_rfl
@[simp] theorem cz_84 : csz Tryd.prog 84 = 5 := by kernel_rfl
@[simp] theorem ag_84 : aggB Tryd.prog 84 = true := by kernel_rfl
@[simp] theorem ze_84 : zeroV Tryd.prog 84 = some [.bool false, .int .u32 0, .int .i64 0, .int .i64 0, .int .i64 0] := by kernel_rfl
@[simp] theorem by_84 : Tryd.prog.bytesOf 84 = 32 := by kernel_rfl
@[simp] theorem tk_94 : tk Tryd.prog 94 = .ptr 130 := by kernel_rfl
@[simp] theorem co_94 : Tryd.prog.cellsOf 94 = 1 := by kernel_rfl
@[simp] theorem cz_94 : csz Tryd.prog 94 = 1 := by kernel_rfl
@[simp] theorem ag_94 : aggB Tryd.prog 94 = false := by kernel_rfl
@[simp] theorem ze_94 : zeroV Tryd.prog 94 = some [.pointer none] := by kernel_rfl
@[simp] theorem by_94 : Tryd.prog.bytesOf 94 = 8 := by kernel_rfl
@[simp] theorem tk_111 : tk Tryd.prog 111 = .ptr 139 := by kernel_rfl
@[simp] theorem co_111 : Tryd.prog.cellsOf 111 = 1 := by kernel_rfl
@[simp] theorem cz_111 : csz Tryd.prog 111 = 1 := by kernel_rfl
@[simp] theorem ag_111 : aggB Tryd.prog 111 = false := by kernel_rfl
@[simp] theorem ze_111 : zeroV Tryd.prog 111 = some [.pointer none] := by kernel_rfl
@[simp] theorem by_111 : Tryd.prog.bytesOf 111 = 8 := by kernel_rfl
@[simp] theorem tk_130 : tk Tryd.prog 130 = .struct [(0, 1, false), (1, 1, false)] := by kernel_rfl
@[simp] theorem co_130 : Tryd.prog.cellsOf 130 = 2 := by kernel_rfl
@[simp] theorem cz_130 : csz Tryd.prog 130 = 2 := by kernel_rfl
@[simp] theorem ag_130 : aggB Tryd.prog 130 = true := by kernel_rfl
@[simp] theorem ze_130 : zeroV Tryd.prog 130 = some [.slice none 0 0, .bool false] := by kernel_rfl
@[simp] theorem by_130 : Tryd.prog.bytesOf 130 = 32 := by kernel_rfl
@[simp] theorem tk_132 : tk Tryd.prog 132 = .iface := by kernel_rfl
@[simp] theorem co_132 : Tryd.prog.cellsOf 132 = 1 := by kernel_rfl
@[simp] theorem cz_132 : csz Tryd.prog 132 = 1 := by kernel_rfl
@[simp] theorem ag_132 : aggB Tryd.prog 132 = false := by kernel_rfl
@[simp] theorem ze_132 : zeroV Tryd.prog 132 = some [.nilIface] := by kernel_rfl
@[simp] theorem ifc_132 : ifaceB Tryd.prog 132 = true := by kernel_rfl
@[simp] theorem by_132 : Tryd.prog.bytesOf 132 = 16 := by kernel_rfl
@[simp] theorem tk_137 : tk Tryd.prog 137 = .int .u64 := by kernel_rfl
@[simp] theorem co_137 : Tryd.prog.cellsOf 137 = 1 := by kernel_rfl
@[simp] theorem cz_137 : csz Tryd.prog 137 = 1 := by kernel_rfl
@[simp] theorem ag_137 : aggB Tryd.prog 137 = false := by kernel_rfl
@[simp] theorem ze_137 : zeroV Tryd.prog 137 = some [.int .u64 0] := by kernel_rfl
@[simp] theorem by_137 : Tryd.prog.bytesOf 137 = 8 := by kernel_rfl
@[simp] theorem tk_139 : tk Tryd.prog 139 = .struct [(0, 1, false), (1, 1, false), (2, 1, false)] := by kernel_rfl
@[simp] theorem co_139 : Tryd.prog.cellsOf 139 = 3 := by kernel_rfl
@[simp] theorem cz_139 : csz Tryd.prog 139 = 3 := by kernel_rfl
@[simp] theorem ag_139 : aggB Tryd.prog 139 = true := by kernel_rfl
@[simp] theorem ze_139 : zeroV Tryd.prog 139 = some [.slice none 0 0, .int .i64 0, .int .u64 0] := by kernel_rfl
@[simp] theorem by_139 : Tryd.prog.bytesOf 139 = 40 := by kernel_rfl
@[simp] theorem tk_141 : tk Tryd.prog 141 = .ptr 143 := by kernel_rfl
@[simp] theorem co_141 : Tryd.prog.cellsOf 141 = 1 := by kernel_rfl
@[simp] theorem cz_141 : csz Tryd.prog 141 = 1 := by kernel_rfl
@[simp] theorem ag_141 : aggB Tryd.prog 141 = false := by kernel_rfl
@[simp] theorem ze_141 : zeroV Tryd.prog 141 = some [.pointer none] := by kernel_rfl
@[simp] theorem by_141 : Tryd.prog.bytesOf 141 = 8 := by kernel_rfl
@[simp] theorem tk_143 : tk Tryd.prog 143 = .struct [(0, 1, false), (1, 1, false)] := by kernel_rfl
@[simp] theorem co_143 : Tryd.prog.cellsOf 143 = 2 := by kernel_rfl
@[simp] theorem cz_143 : csz Tryd.prog 143 = 2 := by kernel_rfl
@[simp] theorem ag_143 : aggB Tryd.prog 143 = true := by kernel_rfl
@[simp] theorem ze_143 : zeroV Tryd.prog 143 = some [.pointer none, .slice none 0 0] := by kernel_rfl
@[simp] theorem by_143 : Tryd.prog.bytesOf 143 = 32 := by kernel_rfl
theorem mixed : Tryd.prog.follows .mixedOrders = true := by kernel_rfl
structure T22 where
  kind_ : Int
  a_ : Int
  b_ : Int
def pT22 (x : T22) : List V := [.i .i64 x.kind_, .i .i64 x.a_, .i .i64 x.b_]
section
variable {x : T22}
@[simp] theorem pT22_len : (pT22 x).length = 3 := rfl
@[simp] theorem pT22_0 : (pT22 x)[0]? = some (.i .i64 x.kind_) := rfl
@[simp] theorem pT22_g0 (h : 0 < (pT22 x).length) : (pT22 x)[0] = .i .i64 x.kind_ := rfl
@[simp] theorem pT22_1 : (pT22 x)[1]? = some (.i .i64 x.a_) := rfl
@[simp] theorem pT22_g1 (h : 1 < (pT22 x).length) : (pT22 x)[1] = .i .i64 x.a_ := rfl
@[simp] theorem pT22_2 : (pT22 x)[2]? = some (.i .i64 x.b_) := rfl
@[simp] theorem pT22_g2 (h : 2 < (pT22 x).length) : (pT22 x)[2] = .i .i64 x.b_ := rfl
@[simp] theorem pT22_un1 : (pT22 x).map un1 = pT22 x := rfl
@[simp] theorem pT22_snap : snapL (pT22 x) = true := by simp [pT22]
@[simp] theorem pT22_cell : (pT22 x).all cellV = true := by simp [pT22]
@[simp high] theorem pT22_vc : vcells (.agg (pT22 x)) = some (pT22 x) := by simp [pT22]
@[simp] theorem pT22_noB {b : Nat} : (pT22 x).all (noBV b) = true := by simp [pT22]
@[simp] theorem pT22_bnd {k : Nat} : (pT22 x).all (bndV k) = true := by simp [pT22, bndV]
@[simp] theorem pT22_re {m : VM} : vreL1 m (pT22 x) = some (pT22 x) := by simp [pT22]
end
@[simp] def cs_ (x : ByteArray) : List V := [.str x]
instance : Pln cs_ := ⟨fun x => by simp⟩
@[simp] theorem cs__len {x : ByteArray} : (cs_ x).length = 1 := rfl
@[simp] theorem cs__set {xs : List ByteArray} {i : Nat} {a : ByteArray} : (rows cs_ xs).set i [.str a] = rows cs_ (xs.set i a) := rows_set (c := cs_) (x := a)
@[simp] theorem cs__snoc {xs : List ByteArray} {a : ByteArray} : rows cs_ xs ++ [[.str a]] = rows cs_ (xs ++ [a]) := rows_snoc (c := cs_) (x := a)
@[simp] theorem cs__rep {n : Nat} {a : ByteArray} : List.replicate n [.str a] = rows cs_ (List.replicate n a) := rows_rep (c := cs_) (x := a)
theorem cs__inj (x y : ByteArray) (h : cs_ x = cs_ y) : x = y := by
  simp only [cs_, List.cons.injEq, V.i.injEq, V.b.injEq, V.f.injEq, V.str.injEq, V.sl.injEq, V.own.injEq, true_and, and_true] at h
  simp_all
@[simp] def cT22 (x : T22) : List V := [.i .i64 x.kind_, .i .i64 x.a_, .i .i64 x.b_]
instance : Pln cT22 := ⟨fun x => by simp⟩
@[simp] theorem cT22_len {x : T22} : (cT22 x).length = 3 := rfl
@[simp] theorem cT22_set {xs : List T22} {i : Nat} {a0 : Int} {a1 : Int} {a2 : Int} : (rows cT22 xs).set i [.i .i64 a0, .i .i64 a1, .i .i64 a2] = rows cT22 (xs.set i (⟨a0, a1, a2⟩ : T22)) := rows_set (c := cT22) (x := (⟨a0, a1, a2⟩ : T22))
@[simp] theorem cT22_snoc {xs : List T22} {a0 : Int} {a1 : Int} {a2 : Int} : rows cT22 xs ++ [[.i .i64 a0, .i .i64 a1, .i .i64 a2]] = rows cT22 (xs ++ [(⟨a0, a1, a2⟩ : T22)]) := rows_snoc (c := cT22) (x := (⟨a0, a1, a2⟩ : T22))
@[simp] theorem cT22_rep {n : Nat} {a0 : Int} {a1 : Int} {a2 : Int} : List.replicate n [.i .i64 a0, .i .i64 a1, .i .i64 a2] = rows cT22 (List.replicate n (⟨a0, a1, a2⟩ : T22)) := rows_rep (c := cT22) (x := (⟨a0, a1, a2⟩ : T22))
theorem cT22_inj (x y : T22) (h : cT22 x = cT22 y) : x = y := by
  obtain ⟨i27, i28, i29⟩ := x
  obtain ⟨i30, i31, i32⟩ := y
  simp only [cT22, List.cons.injEq, V.i.injEq, V.b.injEq, V.f.injEq, V.str.injEq, V.sl.injEq, V.own.injEq, true_and, and_true] at h
  simp_all
@[simp] def ci_i64 (x : Int) : List V := [.i .i64 x]
instance : Pln ci_i64 := ⟨fun x => by simp⟩
@[simp] theorem ci_i64_len {x : Int} : (ci_i64 x).length = 1 := rfl
@[simp] theorem ci_i64_set {xs : List Int} {i : Nat} {a : Int} : (rows ci_i64 xs).set i [.i .i64 a] = rows ci_i64 (xs.set i a) := rows_set (c := ci_i64) (x := a)
@[simp] theorem ci_i64_snoc {xs : List Int} {a : Int} : rows ci_i64 xs ++ [[.i .i64 a]] = rows ci_i64 (xs ++ [a]) := rows_snoc (c := ci_i64) (x := a)
@[simp] theorem ci_i64_rep {n : Nat} {a : Int} : List.replicate n [.i .i64 a] = rows ci_i64 (List.replicate n a) := rows_rep (c := ci_i64) (x := a)
theorem ci_i64_inj (x y : Int) (h : ci_i64 x = ci_i64 y) : x = y := by
  simp only [ci_i64, List.cons.injEq, V.i.injEq, V.b.injEq, V.f.injEq, V.str.injEq, V.sl.injEq, V.own.injEq, true_and, and_true] at h
  simp_all
structure T129 where
  list_ : List ByteArray
  bad_ : Bool
def pT129 (x : T129) : List V := [.sl 1 (rows cs_ x.list_), .b x.bad_]
section
variable {x : T129}
@[simp] theorem pT129_len : (pT129 x).length = 2 := rfl
@[simp] theorem pT129_0 : (pT129 x)[0]? = some (.sl 1 (rows cs_ x.list_)) := rfl
@[simp] theorem pT129_g0 (h : 0 < (pT129 x).length) : (pT129 x)[0] = .sl 1 (rows cs_ x.list_) := rfl
@[simp] theorem pT129_1 : (pT129 x)[1]? = some (.b x.bad_) := rfl
@[simp] theorem pT129_g1 (h : 1 < (pT129 x).length) : (pT129 x)[1] = .b x.bad_ := rfl
@[simp] theorem pT129_un1 : (pT129 x).map un1 = pT129 x := rfl
@[simp] theorem pT129_snap : snapL (pT129 x) = true := by simp [pT129]
@[simp] theorem pT129_cell : (pT129 x).all cellV = true := by simp [pT129]
@[simp high] theorem pT129_vc : vcells (.agg (pT129 x)) = some (pT129 x) := by simp [pT129]
@[simp] theorem pT129_noB {b : Nat} : (pT129 x).all (noBV b) = true := by simp [pT129]
@[simp] theorem pT129_bnd {k : Nat} : (pT129 x).all (bndV k) = true := by simp [pT129, bndV]
@[simp] theorem pT129_re {m : VM} : vreL1 m (pT129 x) = some (pT129 x) := by simp [pT129]
end
structure T29 where
  need_ : List Int
  price_ : List Int
  most_ : Int
  yield_ : Int
  store_ : Int
  first_ : Int
  loss_ : Int
def pT29 (x : T29) : List V := [.sl 1 (rows ci_i64 x.need_), .sl 1 (rows ci_i64 x.price_), .i .i64 x.most_, .i .i64 x.yield_, .i .i64 x.store_, .i .i64 x.first_, .i .i64 x.loss_]
section
variable {x : T29}
@[simp] theorem pT29_len : (pT29 x).length = 7 := rfl
@[simp] theorem pT29_0 : (pT29 x)[0]? = some (.sl 1 (rows ci_i64 x.need_)) := rfl
@[simp] theorem pT29_g0 (h : 0 < (pT29 x).length) : (pT29 x)[0] = .sl 1 (rows ci_i64 x.need_) := rfl
@[simp] theorem pT29_1 : (pT29 x)[1]? = some (.sl 1 (rows ci_i64 x.price_)) := rfl
@[simp] theorem pT29_g1 (h : 1 < (pT29 x).length) : (pT29 x)[1] = .sl 1 (rows ci_i64 x.price_) := rfl
@[simp] theorem pT29_2 : (pT29 x)[2]? = some (.i .i64 x.most_) := rfl
@[simp] theorem pT29_g2 (h : 2 < (pT29 x).length) : (pT29 x)[2] = .i .i64 x.most_ := rfl
@[simp] theorem pT29_3 : (pT29 x)[3]? = some (.i .i64 x.yield_) := rfl
@[simp] theorem pT29_g3 (h : 3 < (pT29 x).length) : (pT29 x)[3] = .i .i64 x.yield_ := rfl
@[simp] theorem pT29_4 : (pT29 x)[4]? = some (.i .i64 x.store_) := rfl
@[simp] theorem pT29_g4 (h : 4 < (pT29 x).length) : (pT29 x)[4] = .i .i64 x.store_ := rfl
@[simp] theorem pT29_5 : (pT29 x)[5]? = some (.i .i64 x.first_) := rfl
@[simp] theorem pT29_g5 (h : 5 < (pT29 x).length) : (pT29 x)[5] = .i .i64 x.first_ := rfl
@[simp] theorem pT29_6 : (pT29 x)[6]? = some (.i .i64 x.loss_) := rfl
@[simp] theorem pT29_g6 (h : 6 < (pT29 x).length) : (pT29 x)[6] = .i .i64 x.loss_ := rfl
@[simp] theorem pT29_un1 : (pT29 x).map un1 = pT29 x := rfl
@[simp] theorem pT29_snap : snapL (pT29 x) = true := by simp [pT29]
@[simp] theorem pT29_cell : (pT29 x).all cellV = true := by simp [pT29]
@[simp high] theorem pT29_vc : vcells (.agg (pT29 x)) = some (pT29 x) := by simp [pT29]
@[simp] theorem pT29_noB {b : Nat} : (pT29 x).all (noBV b) = true := by simp [pT29]
@[simp] theorem pT29_bnd {k : Nat} : (pT29 x).all (bndV k) = true := by simp [pT29, bndV]
@[simp] theorem pT29_re {m : VM} : vreL1 m (pT29 x) = some (pT29 x) := by simp [pT29]
end
@[simp] def cT29 (x : T29) : List V := [.sl 1 (rows ci_i64 x.need_), .sl 1 (rows ci_i64 x.price_), .i .i64 x.most_, .i .i64 x.yield_, .i .i64 x.store_, .i .i64 x.first_, .i .i64 x.loss_]
instance : Snp cT29 := ⟨fun x => by simp, fun x => by simp⟩
@[simp] theorem cT29_len {x : T29} : (cT29 x).length = 7 := rfl
@[simp] theorem cT29_set {xs : List T29} {i : Nat} {a0 : List Int} {a1 : List Int} {a2 : Int} {a3 : Int} {a4 : Int} {a5 : Int} {a6 : Int} : (rows cT29 xs).set i [.sl 1 (rows ci_i64 a0), .sl 1 (rows ci_i64 a1), .i .i64 a2, .i .i64 a3, .i .i64 a4, .i .i64 a5, .i .i64 a6] = rows cT29 (xs.set i (⟨a0, a1, a2, a3, a4, a5, a6⟩ : T29)) := rows_set (c := cT29) (x := (⟨a0, a1, a2, a3, a4, a5, a6⟩ : T29))
@[simp] theorem cT29_snoc {xs : List T29} {a0 : List Int} {a1 : List Int} {a2 : Int} {a3 : Int} {a4 : Int} {a5 : Int} {a6 : Int} : rows cT29 xs ++ [[.sl 1 (rows ci_i64 a0), .sl 1 (rows ci_i64 a1), .i .i64 a2, .i .i64 a3, .i .i64 a4, .i .i64 a5, .i .i64 a6]] = rows cT29 (xs ++ [(⟨a0, a1, a2, a3, a4, a5, a6⟩ : T29)]) := rows_snoc (c := cT29) (x := (⟨a0, a1, a2, a3, a4, a5, a6⟩ : T29))
@[simp] theorem cT29_rep {n : Nat} {a0 : List Int} {a1 : List Int} {a2 : Int} {a3 : Int} {a4 : Int} {a5 : Int} {a6 : Int} : List.replicate n [.sl 1 (rows ci_i64 a0), .sl 1 (rows ci_i64 a1), .i .i64 a2, .i .i64 a3, .i .i64 a4, .i .i64 a5, .i .i64 a6] = rows cT29 (List.replicate n (⟨a0, a1, a2, a3, a4, a5, a6⟩ : T29)) := rows_rep (c := cT29) (x := (⟨a0, a1, a2, a3, a4, a5, a6⟩ : T29))
theorem cT29_inj (x y : T29) (h : cT29 x = cT29 y) : x = y := by
  obtain ⟨i101, i102, i103, i104, i105, i106, i107⟩ := x
  obtain ⟨i108, i109, i110, i111, i112, i113, i114⟩ := y
  simp only [cT29, List.cons.injEq, V.i.injEq, V.b.injEq, V.f.injEq, V.str.injEq, V.sl.injEq, V.own.injEq, true_and, and_true] at h
  simp_all [ri ci_i64_inj]
structure T83 where
  mark_ : Bool
  check_ : Int
  act_ : T22
def pT83 (x : T83) : List V := [.b x.mark_, .i .u32 x.check_, .i .i64 x.act_.kind_, .i .i64 x.act_.a_, .i .i64 x.act_.b_]
section
variable {x : T83}
@[simp] theorem pT83_len : (pT83 x).length = 5 := rfl
@[simp] theorem pT83_0 : (pT83 x)[0]? = some (.b x.mark_) := rfl
@[simp] theorem pT83_g0 (h : 0 < (pT83 x).length) : (pT83 x)[0] = .b x.mark_ := rfl
@[simp] theorem pT83_1 : (pT83 x)[1]? = some (.i .u32 x.check_) := rfl
@[simp] theorem pT83_g1 (h : 1 < (pT83 x).length) : (pT83 x)[1] = .i .u32 x.check_ := rfl
@[simp] theorem pT83_2 : (pT83 x)[2]? = some (.i .i64 x.act_.kind_) := rfl
@[simp] theorem pT83_g2 (h : 2 < (pT83 x).length) : (pT83 x)[2] = .i .i64 x.act_.kind_ := rfl
@[simp] theorem pT83_3 : (pT83 x)[3]? = some (.i .i64 x.act_.a_) := rfl
@[simp] theorem pT83_g3 (h : 3 < (pT83 x).length) : (pT83 x)[3] = .i .i64 x.act_.a_ := rfl
@[simp] theorem pT83_4 : (pT83 x)[4]? = some (.i .i64 x.act_.b_) := rfl
@[simp] theorem pT83_g4 (h : 4 < (pT83 x).length) : (pT83 x)[4] = .i .i64 x.act_.b_ := rfl
@[simp] theorem pT83_d2 : (pT83 x).drop 2 = [.i .i64 x.act_.kind_, .i .i64 x.act_.a_, .i .i64 x.act_.b_] := rfl
@[simp] theorem pT83_s2_3 : ((pT83 x).drop 2).take 3 = [.i .i64 x.act_.kind_, .i .i64 x.act_.a_, .i .i64 x.act_.b_] := rfl
@[simp] theorem pT83_un1 : (pT83 x).map un1 = pT83 x := rfl
@[simp] theorem pT83_snap : snapL (pT83 x) = true := by simp [pT83]
@[simp] theorem pT83_cell : (pT83 x).all cellV = true := by simp [pT83]
@[simp high] theorem pT83_vc : vcells (.agg (pT83 x)) = some (pT83 x) := by simp [pT83]
@[simp] theorem pT83_noB {b : Nat} : (pT83 x).all (noBV b) = true := by simp [pT83]
@[simp] theorem pT83_bnd {k : Nat} : (pT83 x).all (bndV k) = true := by simp [pT83, bndV]
@[simp] theorem pT83_re {m : VM} : vreL1 m (pT83 x) = some (pT83 x) := by simp [pT83]
end
@[simp] def cT83 (x : T83) : List V := [.b x.mark_, .i .u32 x.check_, .i .i64 x.act_.kind_, .i .i64 x.act_.a_, .i .i64 x.act_.b_]
instance : Pln cT83 := ⟨fun x => by simp⟩
@[simp] theorem cT83_len {x : T83} : (cT83 x).length = 5 := rfl
@[simp] theorem cT83_set {xs : List T83} {i : Nat} {a0 : Bool} {a1 : Int} {a2 : Int} {a3 : Int} {a4 : Int} : (rows cT83 xs).set i [.b a0, .i .u32 a1, .i .i64 a2, .i .i64 a3, .i .i64 a4] = rows cT83 (xs.set i (⟨a0, a1, (⟨a2, a3, a4⟩ : T22)⟩ : T83)) := rows_set (c := cT83) (x := (⟨a0, a1, (⟨a2, a3, a4⟩ : T22)⟩ : T83))
@[simp] theorem cT83_snoc {xs : List T83} {a0 : Bool} {a1 : Int} {a2 : Int} {a3 : Int} {a4 : Int} : rows cT83 xs ++ [[.b a0, .i .u32 a1, .i .i64 a2, .i .i64 a3, .i .i64 a4]] = rows cT83 (xs ++ [(⟨a0, a1, (⟨a2, a3, a4⟩ : T22)⟩ : T83)]) := rows_snoc (c := cT83) (x := (⟨a0, a1, (⟨a2, a3, a4⟩ : T22)⟩ : T83))
@[simp] theorem cT83_rep {n : Nat} {a0 : Bool} {a1 : Int} {a2 : Int} {a3 : Int} {a4 : Int} : List.replicate n [.b a0, .i .u32 a1, .i .i64 a2, .i .i64 a3, .i .i64 a4] = rows cT83 (List.replicate n (⟨a0, a1, (⟨a2, a3, a4⟩ : T22)⟩ : T83)) := rows_rep (c := cT83) (x := (⟨a0, a1, (⟨a2, a3, a4⟩ : T22)⟩ : T83))
theorem cT83_inj (x y : T83) (h : cT83 x = cT83 y) : x = y := by
  obtain ⟨i219, i220, ⟨i221, i222, i223⟩⟩ := x
  obtain ⟨i224, i225, ⟨i226, i227, i228⟩⟩ := y
  simp only [cT83, List.cons.injEq, V.i.injEq, V.b.injEq, V.f.injEq, V.str.injEq, V.sl.injEq, V.own.injEq, true_and, and_true] at h
  simp_all
@[simp] def ci_u8 (x : Int) : List V := [.i .u8 x]
@[simp] theorem ci_u8_nums {xs : List Int} : numsOf (rows ci_u8 xs) = some xs := by
  induction xs with
  | nil => rfl
  | cons x xs ih => simp [numsOf, numOf, ih]
instance : Pln ci_u8 := ⟨fun x => by simp⟩
@[simp] theorem ci_u8_len {x : Int} : (ci_u8 x).length = 1 := rfl
@[simp] theorem ci_u8_set {xs : List Int} {i : Nat} {a : Int} : (rows ci_u8 xs).set i [.i .u8 a] = rows ci_u8 (xs.set i a) := rows_set (c := ci_u8) (x := a)
@[simp] theorem ci_u8_snoc {xs : List Int} {a : Int} : rows ci_u8 xs ++ [[.i .u8 a]] = rows ci_u8 (xs ++ [a]) := rows_snoc (c := ci_u8) (x := a)
@[simp] theorem ci_u8_rep {n : Nat} {a : Int} : List.replicate n [.i .u8 a] = rows ci_u8 (List.replicate n a) := rows_rep (c := ci_u8) (x := a)
theorem ci_u8_inj (x y : Int) (h : ci_u8 x = ci_u8 y) : x = y := by
  simp only [ci_u8, List.cons.injEq, V.i.injEq, V.b.injEq, V.f.injEq, V.str.injEq, V.sl.injEq, V.own.injEq, true_and, and_true] at h
  simp_all
structure T138 where
  code_ : List Int
  at_ : Int
  seed_ : Int
def pT138 (x : T138) : List V := [.sl 1 (rows ci_u8 x.code_), .i .i64 x.at_, .i .u64 x.seed_]
section
variable {x : T138}
@[simp] theorem pT138_len : (pT138 x).length = 3 := rfl
@[simp] theorem pT138_0 : (pT138 x)[0]? = some (.sl 1 (rows ci_u8 x.code_)) := rfl
@[simp] theorem pT138_g0 (h : 0 < (pT138 x).length) : (pT138 x)[0] = .sl 1 (rows ci_u8 x.code_) := rfl
@[simp] theorem pT138_1 : (pT138 x)[1]? = some (.i .i64 x.at_) := rfl
@[simp] theorem pT138_g1 (h : 1 < (pT138 x).length) : (pT138 x)[1] = .i .i64 x.at_ := rfl
@[simp] theorem pT138_2 : (pT138 x)[2]? = some (.i .u64 x.seed_) := rfl
@[simp] theorem pT138_g2 (h : 2 < (pT138 x).length) : (pT138 x)[2] = .i .u64 x.seed_ := rfl
@[simp] theorem pT138_un1 : (pT138 x).map un1 = pT138 x := rfl
@[simp] theorem pT138_snap : snapL (pT138 x) = true := by simp [pT138]
@[simp] theorem pT138_cell : (pT138 x).all cellV = true := by simp [pT138]
@[simp high] theorem pT138_vc : vcells (.agg (pT138 x)) = some (pT138 x) := by simp [pT138]
@[simp] theorem pT138_noB {b : Nat} : (pT138 x).all (noBV b) = true := by simp [pT138]
@[simp] theorem pT138_bnd {k : Nat} : (pT138 x).all (bndV k) = true := by simp [pT138, bndV]
@[simp] theorem pT138_re {m : VM} : vreL1 m (pT138 x) = some (pT138 x) := by simp [pT138]
end
end Go.Proofs.YtilkneilafpjiaaDoor
