/- The law FnExactSameHouse holds for every input. No conditions. -/
import Derived.Test.YtilkneilafpjiaaK4Pj
import Derived.Test.YtilkneilafpjiaaVxEnd
import Derived.Test.YtilkneilafpjiaaRows
import Derived.WalkKit
import Derived.ProofKit
namespace Go.Proofs.Ytilkneilafpjiaa
open Go.ChangeShapes Go.WideShapes Go.ChangeAt Go.RowKit Go.VL
set_option linter.unusedVariables false
set_option linter.unusedSimpArgs false

theorem own : ownKnob Try.prog.godebug = none := by kernel_rfl
theorem laidOut : laidOutB Try.prog = true := by kernel_rfl
theorem rows_of {α : Type} {c : α → List V} {sh : Sh} {B : α → Prop} (h1 : ∀ x, Ok sh x → ∃ a, x = c a ∧ B a) : ∀ {es : List (List V)}, (∀ x ∈ es, Ok sh x) → ∃ xs, es = rows c xs ∧ ∀ y ∈ xs, B y
  | [], _ => ⟨[], rfl, by simp⟩
  | e :: es, h => by
    obtain ⟨a, rfl, ha⟩ := h1 e (h e (by simp))
    obtain ⟨xs, rfl, hx⟩ := rows_of h1 (es := es) fun x hx => h x (by simp [hx])
    exact ⟨a :: xs, rfl, by simpa using ⟨ha, hx⟩⟩
@[simp] def cl_cf_f32 (x : List F32) : List V := [.sl 1 (rows cf_f32 x)]
instance : Snp cl_cf_f32 := ⟨fun x => by simp, fun x => by simp⟩
@[simp] theorem cl_cf_f32_len {x : List F32} : (cl_cf_f32 x).length = 1 := rfl
@[simp] theorem cl_cf_f32_set {xs : List (List F32)} {i : Nat} {a : List F32} : (rows cl_cf_f32 xs).set i [.sl 1 (rows cf_f32 a)] = rows cl_cf_f32 (xs.set i a) := rows_set (c := cl_cf_f32) (x := a)
@[simp] theorem cl_cf_f32_snoc {xs : List (List F32)} {a : List F32} : rows cl_cf_f32 xs ++ [[.sl 1 (rows cf_f32 a)]] = rows cl_cf_f32 (xs ++ [a]) := rows_snoc (c := cl_cf_f32) (x := a)
@[simp] theorem cl_cf_f32_rep {n : Nat} {a : List F32} : List.replicate n [.sl 1 (rows cf_f32 a)] = rows cl_cf_f32 (List.replicate n a) := rows_rep (c := cl_cf_f32) (x := a)
theorem cl_cf_f32_inj (x y : List F32) (h : cl_cf_f32 x = cl_cf_f32 y) : x = y := by
  simp only [cl_cf_f32, List.cons.injEq, V.i.injEq, V.b.injEq, V.f.injEq, V.str.injEq, V.sl.injEq, V.own.injEq, true_and, and_true] at h
  simp_all [ri cf_f32_inj]
@[simp] def cl_cT132 (x : List T132) : List V := [.sl 8 (rows cT132 x)]
instance : Snp cl_cT132 := ⟨fun x => by simp, fun x => by simp⟩
@[simp] theorem cl_cT132_len {x : List T132} : (cl_cT132 x).length = 1 := rfl
@[simp] theorem cl_cT132_set {xs : List (List T132)} {i : Nat} {a : List T132} : (rows cl_cT132 xs).set i [.sl 8 (rows cT132 a)] = rows cl_cT132 (xs.set i a) := rows_set (c := cl_cT132) (x := a)
@[simp] theorem cl_cT132_snoc {xs : List (List T132)} {a : List T132} : rows cl_cT132 xs ++ [[.sl 8 (rows cT132 a)]] = rows cl_cT132 (xs ++ [a]) := rows_snoc (c := cl_cT132) (x := a)
@[simp] theorem cl_cT132_rep {n : Nat} {a : List T132} : List.replicate n [.sl 8 (rows cT132 a)] = rows cl_cT132 (List.replicate n a) := rows_rep (c := cl_cT132) (x := a)
theorem cl_cT132_inj (x y : List T132) (h : cl_cT132 x = cl_cT132 y) : x = y := by
  simp only [cl_cT132, List.cons.injEq, V.i.injEq, V.b.injEq, V.f.injEq, V.str.injEq, V.sl.injEq, V.own.injEq, true_and, and_true] at h
  simp_all [ri cT132_inj]
@[simp] def ci_i64 (x : Int) : List V := [.i .i64 x]
instance : Pln ci_i64 := ⟨fun x => by simp⟩
@[simp] theorem ci_i64_len {x : Int} : (ci_i64 x).length = 1 := rfl
@[simp] theorem ci_i64_set {xs : List Int} {i : Nat} {a : Int} : (rows ci_i64 xs).set i [.i .i64 a] = rows ci_i64 (xs.set i a) := rows_set (c := ci_i64) (x := a)
@[simp] theorem ci_i64_snoc {xs : List Int} {a : Int} : rows ci_i64 xs ++ [[.i .i64 a]] = rows ci_i64 (xs ++ [a]) := rows_snoc (c := ci_i64) (x := a)
@[simp] theorem ci_i64_rep {n : Nat} {a : Int} : List.replicate n [.i .i64 a] = rows ci_i64 (List.replicate n a) := rows_rep (c := ci_i64) (x := a)
theorem ci_i64_inj (x y : Int) (h : ci_i64 x = ci_i64 y) : x = y := by
  simp only [ci_i64, List.cons.injEq, V.i.injEq, V.b.injEq, V.f.injEq, V.str.injEq, V.sl.injEq, V.own.injEq, true_and, and_true] at h
  simp_all
@[simp] def cl_cT134 (x : List T134) : List V := [.sl 4 (rows cT134 x)]
instance : Snp cl_cT134 := ⟨fun x => by simp, fun x => by simp⟩
@[simp] theorem cl_cT134_len {x : List T134} : (cl_cT134 x).length = 1 := rfl
@[simp] theorem cl_cT134_set {xs : List (List T134)} {i : Nat} {a : List T134} : (rows cl_cT134 xs).set i [.sl 4 (rows cT134 a)] = rows cl_cT134 (xs.set i a) := rows_set (c := cl_cT134) (x := a)
@[simp] theorem cl_cT134_snoc {xs : List (List T134)} {a : List T134} : rows cl_cT134 xs ++ [[.sl 4 (rows cT134 a)]] = rows cl_cT134 (xs ++ [a]) := rows_snoc (c := cl_cT134) (x := a)
@[simp] theorem cl_cT134_rep {n : Nat} {a : List T134} : List.replicate n [.sl 4 (rows cT134 a)] = rows cl_cT134 (List.replicate n a) := rows_rep (c := cl_cT134) (x := a)
theorem cl_cT134_inj (x y : List T134) (h : cl_cT134 x = cl_cT134 y) : x = y := by
  simp only [cl_cT134, List.cons.injEq, V.i.injEq, V.b.injEq, V.f.injEq, V.str.injEq, V.sl.injEq, V.own.injEq, true_and, and_true] at h
  simp_all [ri cT134_inj]
@[simp] def cl_cT105 (x : List T105) : List V := [.sl 5 (rows cT105 x)]
instance : Snp cl_cT105 := ⟨fun x => by simp, fun x => by simp⟩
@[simp] theorem cl_cT105_len {x : List T105} : (cl_cT105 x).length = 1 := rfl
@[simp] theorem cl_cT105_set {xs : List (List T105)} {i : Nat} {a : List T105} : (rows cl_cT105 xs).set i [.sl 5 (rows cT105 a)] = rows cl_cT105 (xs.set i a) := rows_set (c := cl_cT105) (x := a)
@[simp] theorem cl_cT105_snoc {xs : List (List T105)} {a : List T105} : rows cl_cT105 xs ++ [[.sl 5 (rows cT105 a)]] = rows cl_cT105 (xs ++ [a]) := rows_snoc (c := cl_cT105) (x := a)
@[simp] theorem cl_cT105_rep {n : Nat} {a : List T105} : List.replicate n [.sl 5 (rows cT105 a)] = rows cl_cT105 (List.replicate n a) := rows_rep (c := cl_cT105) (x := a)
theorem cl_cT105_inj (x y : List T105) (h : cl_cT105 x = cl_cT105 y) : x = y := by
  simp only [cl_cT105, List.cons.injEq, V.i.injEq, V.b.injEq, V.f.injEq, V.str.injEq, V.sl.injEq, V.own.injEq, true_and, and_true] at h
  simp_all [ri cT105_inj]
@[simp] def cl_cT92 (x : List T92) : List V := [.sl 9 (rows cT92 x)]
instance : Snp cl_cT92 := ⟨fun x => by simp, fun x => by simp⟩
@[simp] theorem cl_cT92_len {x : List T92} : (cl_cT92 x).length = 1 := rfl
@[simp] theorem cl_cT92_set {xs : List (List T92)} {i : Nat} {a : List T92} : (rows cl_cT92 xs).set i [.sl 9 (rows cT92 a)] = rows cl_cT92 (xs.set i a) := rows_set (c := cl_cT92) (x := a)
@[simp] theorem cl_cT92_snoc {xs : List (List T92)} {a : List T92} : rows cl_cT92 xs ++ [[.sl 9 (rows cT92 a)]] = rows cl_cT92 (xs ++ [a]) := rows_snoc (c := cl_cT92) (x := a)
@[simp] theorem cl_cT92_rep {n : Nat} {a : List T92} : List.replicate n [.sl 9 (rows cT92 a)] = rows cl_cT92 (List.replicate n a) := rows_rep (c := cl_cT92) (x := a)
theorem cl_cT92_inj (x y : List T92) (h : cl_cT92 x = cl_cT92 y) : x = y := by
  simp only [cl_cT92, List.cons.injEq, V.i.injEq, V.b.injEq, V.f.injEq, V.str.injEq, V.sl.injEq, V.own.injEq, true_and, and_true] at h
  simp_all [ri cT92_inj]
@[simp] def cl_cT147 (x : List T147) : List V := [.sl 18 (rows cT147 x)]
instance : Snp cl_cT147 := ⟨fun x => by simp, fun x => by simp⟩
@[simp] theorem cl_cT147_len {x : List T147} : (cl_cT147 x).length = 1 := rfl
@[simp] theorem cl_cT147_set {xs : List (List T147)} {i : Nat} {a : List T147} : (rows cl_cT147 xs).set i [.sl 18 (rows cT147 a)] = rows cl_cT147 (xs.set i a) := rows_set (c := cl_cT147) (x := a)
@[simp] theorem cl_cT147_snoc {xs : List (List T147)} {a : List T147} : rows cl_cT147 xs ++ [[.sl 18 (rows cT147 a)]] = rows cl_cT147 (xs ++ [a]) := rows_snoc (c := cl_cT147) (x := a)
@[simp] theorem cl_cT147_rep {n : Nat} {a : List T147} : List.replicate n [.sl 18 (rows cT147 a)] = rows cl_cT147 (List.replicate n a) := rows_rep (c := cl_cT147) (x := a)
theorem cl_cT147_inj (x y : List T147) (h : cl_cT147 x = cl_cT147 y) : x = y := by
  simp only [cl_cT147, List.cons.injEq, V.i.injEq, V.b.injEq, V.f.injEq, V.str.injEq, V.sl.injEq, V.own.injEq, true_and, and_true] at h
  simp_all [ri cT147_inj]
@[simp] def ci_i8 (x : Int) : List V := [.i .i8 x]
instance : Pln ci_i8 := ⟨fun x => by simp⟩
@[simp] theorem ci_i8_len {x : Int} : (ci_i8 x).length = 1 := rfl
@[simp] theorem ci_i8_set {xs : List Int} {i : Nat} {a : Int} : (rows ci_i8 xs).set i [.i .i8 a] = rows ci_i8 (xs.set i a) := rows_set (c := ci_i8) (x := a)
@[simp] theorem ci_i8_snoc {xs : List Int} {a : Int} : rows ci_i8 xs ++ [[.i .i8 a]] = rows ci_i8 (xs ++ [a]) := rows_snoc (c := ci_i8) (x := a)
@[simp] theorem ci_i8_rep {n : Nat} {a : Int} : List.replicate n [.i .i8 a] = rows ci_i8 (List.replicate n a) := rows_rep (c := ci_i8) (x := a)
theorem ci_i8_inj (x y : Int) (h : ci_i8 x = ci_i8 y) : x = y := by
  simp only [ci_i8, List.cons.injEq, V.i.injEq, V.b.injEq, V.f.injEq, V.str.injEq, V.sl.injEq, V.own.injEq, true_and, and_true] at h
  simp_all
@[simp] def cl_cs_ (x : List ByteArray) : List V := [.sl 1 (rows cs_ x)]
instance : Snp cl_cs_ := ⟨fun x => by simp, fun x => by simp⟩
@[simp] theorem cl_cs__len {x : List ByteArray} : (cl_cs_ x).length = 1 := rfl
@[simp] theorem cl_cs__set {xs : List (List ByteArray)} {i : Nat} {a : List ByteArray} : (rows cl_cs_ xs).set i [.sl 1 (rows cs_ a)] = rows cl_cs_ (xs.set i a) := rows_set (c := cl_cs_) (x := a)
@[simp] theorem cl_cs__snoc {xs : List (List ByteArray)} {a : List ByteArray} : rows cl_cs_ xs ++ [[.sl 1 (rows cs_ a)]] = rows cl_cs_ (xs ++ [a]) := rows_snoc (c := cl_cs_) (x := a)
@[simp] theorem cl_cs__rep {n : Nat} {a : List ByteArray} : List.replicate n [.sl 1 (rows cs_ a)] = rows cl_cs_ (List.replicate n a) := rows_rep (c := cl_cs_) (x := a)
theorem cl_cs__inj (x y : List ByteArray) (h : cl_cs_ x = cl_cs_ y) : x = y := by
  simp only [cl_cs_, List.cons.injEq, V.i.injEq, V.b.injEq, V.f.injEq, V.str.injEq, V.sl.injEq, V.own.injEq, true_and, and_true] at h
  simp_all [ri cs__inj]
@[simp] def cl_cT108 (x : List T108) : List V := [.sl 3 (rows cT108 x)]
instance : Snp cl_cT108 := ⟨fun x => by simp, fun x => by simp⟩
@[simp] theorem cl_cT108_len {x : List T108} : (cl_cT108 x).length = 1 := rfl
@[simp] theorem cl_cT108_set {xs : List (List T108)} {i : Nat} {a : List T108} : (rows cl_cT108 xs).set i [.sl 3 (rows cT108 a)] = rows cl_cT108 (xs.set i a) := rows_set (c := cl_cT108) (x := a)
@[simp] theorem cl_cT108_snoc {xs : List (List T108)} {a : List T108} : rows cl_cT108 xs ++ [[.sl 3 (rows cT108 a)]] = rows cl_cT108 (xs ++ [a]) := rows_snoc (c := cl_cT108) (x := a)
@[simp] theorem cl_cT108_rep {n : Nat} {a : List T108} : List.replicate n [.sl 3 (rows cT108 a)] = rows cl_cT108 (List.replicate n a) := rows_rep (c := cl_cT108) (x := a)
theorem cl_cT108_inj (x y : List T108) (h : cl_cT108 x = cl_cT108 y) : x = y := by
  simp only [cl_cT108, List.cons.injEq, V.i.injEq, V.b.injEq, V.f.injEq, V.str.injEq, V.sl.injEq, V.own.injEq, true_and, and_true] at h
  simp_all [ri cT108_inj]
theorem okc_22 {x : List V} (h : Ok (.float .f32) x) : ∃ v : F32, x = cf_f32 v ∧ True := by
  obtain ⟨b, rfl, hb⟩ := h
  exact ⟨some b, rfl, trivial⟩
theorem okc_26 {x : List V} (h : Ok (.slice 1 (.float .f32)) x) : ∃ v : List F32, x = cl_cf_f32 v ∧ v.length ≤ maxLen := by
  obtain ⟨es, rfl, h1, h2, h3⟩ := h
  obtain ⟨xs, rfl, h4⟩ := rows_of (fun x hx => okc_22 hx) h3
  exact ⟨xs, rfl, by simpa using h1⟩
theorem okc_2 {x : List V} (h : Ok (.int .i64) x) : ∃ v : Int, x = ci_i64 v ∧ True := by
  obtain ⟨b, rfl, hb⟩ := h
  exact ⟨b, rfl, trivial⟩
theorem okc_109 {x : List V} (h : Ok (.rep 4 (.float .f32)) x) : ∃ v : T109, x = cT109 v ∧ True := by
  obtain ⟨xs, rfl, hl, h⟩ := h
  match xs, hl, h with
  | [x0, x1, x2, x3], _, h =>
    obtain ⟨v0, e0, k0⟩ := okc_22 (h x0 (by simp))
    subst e0
    obtain ⟨v1, e1, k1⟩ := okc_22 (h x1 (by simp))
    subst e1
    obtain ⟨v2, e2, k2⟩ := okc_22 (h x2 (by simp))
    subst e2
    obtain ⟨v3, e3, k3⟩ := okc_22 (h x3 (by simp))
    subst e3
    exact ⟨⟨v0, v1, v2, v3⟩, rfl, trivial⟩
theorem okc_132 {x : List V} (h : Ok (.seq (.int .i64) (.seq (.int .i64) (.seq (.float .f32) (.seq (.float .f32) (.seq (.rep 4 (.float .f32)) (.unit)))))) x) : ∃ v : T132, x = cT132 v ∧ True := by
  obtain ⟨_, _, rfl, h0, h⟩ := h
  obtain ⟨v0, rfl, k0⟩ := okc_2 h0
  obtain ⟨_, _, rfl, h1, h⟩ := h
  obtain ⟨v1, rfl, k1⟩ := okc_2 h1
  obtain ⟨_, _, rfl, h2, h⟩ := h
  obtain ⟨v2, rfl, k2⟩ := okc_22 h2
  obtain ⟨_, _, rfl, h3, h⟩ := h
  obtain ⟨v3, rfl, k3⟩ := okc_22 h3
  obtain ⟨_, _, rfl, h4, h⟩ := h
  obtain ⟨v4, rfl, k4⟩ := okc_109 h4
  cases h
  exact ⟨⟨v0, v1, v2, v3, v4⟩, rfl, trivial⟩
theorem okc_27 {x : List V} (h : Ok (.slice 8 (.seq (.int .i64) (.seq (.int .i64) (.seq (.float .f32) (.seq (.float .f32) (.seq (.rep 4 (.float .f32)) (.unit))))))) x) : ∃ v : List T132, x = cl_cT132 v ∧ v.length ≤ maxLen := by
  obtain ⟨es, rfl, h1, h2, h3⟩ := h
  obtain ⟨xs, rfl, h4⟩ := rows_of (fun x hx => okc_132 hx) h3
  exact ⟨xs, rfl, by simpa using h1⟩
theorem okc_134 {x : List V} (h : Ok (.seq (.int .i64) (.seq (.int .i64) (.seq (.float .f32) (.seq (.float .f32) (.unit))))) x) : ∃ v : T134, x = cT134 v ∧ True := by
  obtain ⟨_, _, rfl, h0, h⟩ := h
  obtain ⟨v0, rfl, k0⟩ := okc_2 h0
  obtain ⟨_, _, rfl, h1, h⟩ := h
  obtain ⟨v1, rfl, k1⟩ := okc_2 h1
  obtain ⟨_, _, rfl, h2, h⟩ := h
  obtain ⟨v2, rfl, k2⟩ := okc_22 h2
  obtain ⟨_, _, rfl, h3, h⟩ := h
  obtain ⟨v3, rfl, k3⟩ := okc_22 h3
  cases h
  exact ⟨⟨v0, v1, v2, v3⟩, rfl, trivial⟩
theorem okc_28 {x : List V} (h : Ok (.slice 4 (.seq (.int .i64) (.seq (.int .i64) (.seq (.float .f32) (.seq (.float .f32) (.unit)))))) x) : ∃ v : List T134, x = cl_cT134 v ∧ v.length ≤ maxLen := by
  obtain ⟨es, rfl, h1, h2, h3⟩ := h
  obtain ⟨xs, rfl, h4⟩ := rows_of (fun x hx => okc_134 hx) h3
  exact ⟨xs, rfl, by simpa using h1⟩
theorem okc_30 {x : List V} (h : Ok (.seq (.slice 1 (.float .f32)) (.seq (.slice 1 (.float .f32)) (.seq (.slice 8 (.seq (.int .i64) (.seq (.int .i64) (.seq (.float .f32) (.seq (.float .f32) (.seq (.rep 4 (.float .f32)) (.unit))))))) (.seq (.slice 4 (.seq (.int .i64) (.seq (.int .i64) (.seq (.float .f32) (.seq (.float .f32) (.unit)))))) (.unit))))) x) : ∃ v : T30, x = cT30 v ∧ v.heat_.length ≤ maxLen ∧ v.store_.length ≤ maxLen ∧ v.walls_.length ≤ maxLen ∧ v.panes_.length ≤ maxLen := by
  obtain ⟨_, _, rfl, h0, h⟩ := h
  obtain ⟨v0, rfl, k0⟩ := okc_26 h0
  obtain ⟨_, _, rfl, h1, h⟩ := h
  obtain ⟨v1, rfl, k1⟩ := okc_26 h1
  obtain ⟨_, _, rfl, h2, h⟩ := h
  obtain ⟨v2, rfl, k2⟩ := okc_27 h2
  obtain ⟨_, _, rfl, h3, h⟩ := h
  obtain ⟨v3, rfl, k3⟩ := okc_28 h3
  cases h
  exact ⟨⟨v0, v1, v2, v3⟩, rfl, k0, k1, k2, k3⟩
theorem okc_105 {x : List V} (h : Ok (.seq (.float .f32) (.seq (.float .f32) (.seq (.float .f32) (.seq (.float .f32) (.seq (.int .i64) (.unit)))))) x) : ∃ v : T105, x = cT105 v ∧ True := by
  obtain ⟨_, _, rfl, h0, h⟩ := h
  obtain ⟨v0, rfl, k0⟩ := okc_22 h0
  obtain ⟨_, _, rfl, h1, h⟩ := h
  obtain ⟨v1, rfl, k1⟩ := okc_22 h1
  obtain ⟨_, _, rfl, h2, h⟩ := h
  obtain ⟨v2, rfl, k2⟩ := okc_22 h2
  obtain ⟨_, _, rfl, h3, h⟩ := h
  obtain ⟨v3, rfl, k3⟩ := okc_22 h3
  obtain ⟨_, _, rfl, h4, h⟩ := h
  obtain ⟨v4, rfl, k4⟩ := okc_2 h4
  cases h
  exact ⟨⟨v0, v1, v2, v3, v4⟩, rfl, trivial⟩
theorem okc_31 {x : List V} (h : Ok (.slice 5 (.seq (.float .f32) (.seq (.float .f32) (.seq (.float .f32) (.seq (.float .f32) (.seq (.int .i64) (.unit))))))) x) : ∃ v : List T105, x = cl_cT105 v ∧ v.length ≤ maxLen := by
  obtain ⟨es, rfl, h1, h2, h3⟩ := h
  obtain ⟨xs, rfl, h4⟩ := rows_of (fun x hx => okc_105 hx) h3
  exact ⟨xs, rfl, by simpa using h1⟩
theorem okc_114 {x : List V} (h : Ok (.rep 6 (.float .f32)) x) : ∃ v : T114, x = cT114 v ∧ True := by
  obtain ⟨xs, rfl, hl, h⟩ := h
  match xs, hl, h with
  | [x0, x1, x2, x3, x4, x5], _, h =>
    obtain ⟨v0, e0, k0⟩ := okc_22 (h x0 (by simp))
    subst e0
    obtain ⟨v1, e1, k1⟩ := okc_22 (h x1 (by simp))
    subst e1
    obtain ⟨v2, e2, k2⟩ := okc_22 (h x2 (by simp))
    subst e2
    obtain ⟨v3, e3, k3⟩ := okc_22 (h x3 (by simp))
    subst e3
    obtain ⟨v4, e4, k4⟩ := okc_22 (h x4 (by simp))
    subst e4
    obtain ⟨v5, e5, k5⟩ := okc_22 (h x5 (by simp))
    subst e5
    exact ⟨⟨v0, v1, v2, v3, v4, v5⟩, rfl, trivial⟩
theorem okc_147 {x : List V} (h : Ok (.seq (.rep 6 (.float .f32)) (.seq (.rep 6 (.float .f32)) (.seq (.rep 6 (.float .f32)) (.unit)))) x) : ∃ v : T147, x = cT147 v ∧ True := by
  obtain ⟨_, _, rfl, h0, h⟩ := h
  obtain ⟨v0, rfl, k0⟩ := okc_114 h0
  obtain ⟨_, _, rfl, h1, h⟩ := h
  obtain ⟨v1, rfl, k1⟩ := okc_114 h1
  obtain ⟨_, _, rfl, h2, h⟩ := h
  obtain ⟨v2, rfl, k2⟩ := okc_114 h2
  cases h
  exact ⟨⟨v0, v1, v2⟩, rfl, trivial⟩
theorem okc_88 {x : List V} (h : Ok (.slice 18 (.seq (.rep 6 (.float .f32)) (.seq (.rep 6 (.float .f32)) (.seq (.rep 6 (.float .f32)) (.unit))))) x) : ∃ v : List T147, x = cl_cT147 v ∧ v.length ≤ maxLen := by
  obtain ⟨es, rfl, h1, h2, h3⟩ := h
  obtain ⟨xs, rfl, h4⟩ := rows_of (fun x hx => okc_147 hx) h3
  exact ⟨xs, rfl, by simpa using h1⟩
theorem okc_72 {x : List V} (h : Ok (.int .i8) x) : ∃ v : Int, x = ci_i8 v ∧ True := by
  obtain ⟨b, rfl, hb⟩ := h
  exact ⟨b, rfl, trivial⟩
theorem okc_90 {x : List V} (h : Ok (.seq (.slice 18 (.seq (.rep 6 (.float .f32)) (.seq (.rep 6 (.float .f32)) (.seq (.rep 6 (.float .f32)) (.unit))))) (.seq (.float .f32) (.seq (.float .f32) (.seq (.int .i8) (.seq (.int .i64) (.seq (.float .f32) (.unit))))))) x) : ∃ v : T90, x = cT90 v ∧ v.logs_.length ≤ maxLen := by
  obtain ⟨_, _, rfl, h0, h⟩ := h
  obtain ⟨v0, rfl, k0⟩ := okc_88 h0
  obtain ⟨_, _, rfl, h1, h⟩ := h
  obtain ⟨v1, rfl, k1⟩ := okc_22 h1
  obtain ⟨_, _, rfl, h2, h⟩ := h
  obtain ⟨v2, rfl, k2⟩ := okc_22 h2
  obtain ⟨_, _, rfl, h3, h⟩ := h
  obtain ⟨v3, rfl, k3⟩ := okc_72 h3
  obtain ⟨_, _, rfl, h4, h⟩ := h
  obtain ⟨v4, rfl, k4⟩ := okc_2 h4
  obtain ⟨_, _, rfl, h5, h⟩ := h
  obtain ⟨v5, rfl, k5⟩ := okc_22 h5
  cases h
  exact ⟨⟨v0, v1, v2, v3, v4, v5⟩, rfl, k0⟩
theorem okc_92 {x : List V} (h : Ok (.seq (.int .i64) (.seq (.int .i64) (.seq (.int .i64) (.seq (.seq (.slice 18 (.seq (.rep 6 (.float .f32)) (.seq (.rep 6 (.float .f32)) (.seq (.rep 6 (.float .f32)) (.unit))))) (.seq (.float .f32) (.seq (.float .f32) (.seq (.int .i8) (.seq (.int .i64) (.seq (.float .f32) (.unit))))))) (.unit))))) x) : ∃ v : T92, x = cT92 v ∧ v.stove_.logs_.length ≤ maxLen := by
  obtain ⟨_, _, rfl, h0, h⟩ := h
  obtain ⟨v0, rfl, k0⟩ := okc_2 h0
  obtain ⟨_, _, rfl, h1, h⟩ := h
  obtain ⟨v1, rfl, k1⟩ := okc_2 h1
  obtain ⟨_, _, rfl, h2, h⟩ := h
  obtain ⟨v2, rfl, k2⟩ := okc_2 h2
  obtain ⟨_, _, rfl, h3, h⟩ := h
  obtain ⟨v3, rfl, k3⟩ := okc_90 h3
  cases h
  exact ⟨⟨v0, v1, v2, v3⟩, rfl, k3⟩
theorem okc_32 {x : List V} (h : Ok (.slice 9 (.seq (.int .i64) (.seq (.int .i64) (.seq (.int .i64) (.seq (.seq (.slice 18 (.seq (.rep 6 (.float .f32)) (.seq (.rep 6 (.float .f32)) (.seq (.rep 6 (.float .f32)) (.unit))))) (.seq (.float .f32) (.seq (.float .f32) (.seq (.int .i8) (.seq (.int .i64) (.seq (.float .f32) (.unit))))))) (.unit)))))) x) : ∃ v : List T92, x = cl_cT92 v ∧ v.length ≤ maxLen ∧ (∀ y ∈ v, y.stove_.logs_.length ≤ maxLen) := by
  obtain ⟨es, rfl, h1, h2, h3⟩ := h
  obtain ⟨xs, rfl, h4⟩ := rows_of (fun x hx => okc_92 hx) h3
  exact ⟨xs, rfl, by simpa using h1, h4⟩
theorem okc_9 {x : List V} (h : Ok (.str) x) : ∃ v : ByteArray, x = cs_ v ∧ v.size ≤ maxLen := by
  obtain ⟨b, rfl, hb⟩ := h
  exact ⟨b, rfl, hb⟩
theorem okc_33 {x : List V} (h : Ok (.slice 1 (.str)) x) : ∃ v : List ByteArray, x = cl_cs_ v ∧ v.length ≤ maxLen ∧ (∀ y ∈ v, y.size ≤ maxLen) := by
  obtain ⟨es, rfl, h1, h2, h3⟩ := h
  obtain ⟨xs, rfl, h4⟩ := rows_of (fun x hx => okc_9 hx) h3
  exact ⟨xs, rfl, by simpa using h1, h4⟩
theorem okc_108 {x : List V} (h : Ok (.seq (.float .f32) (.seq (.float .f32) (.seq (.float .f32) (.unit)))) x) : ∃ v : T108, x = cT108 v ∧ True := by
  obtain ⟨_, _, rfl, h0, h⟩ := h
  obtain ⟨v0, rfl, k0⟩ := okc_22 h0
  obtain ⟨_, _, rfl, h1, h⟩ := h
  obtain ⟨v1, rfl, k1⟩ := okc_22 h1
  obtain ⟨_, _, rfl, h2, h⟩ := h
  obtain ⟨v2, rfl, k2⟩ := okc_22 h2
  cases h
  exact ⟨⟨v0, v1, v2⟩, rfl, trivial⟩
theorem okc_34 {x : List V} (h : Ok (.slice 3 (.seq (.float .f32) (.seq (.float .f32) (.seq (.float .f32) (.unit))))) x) : ∃ v : List T108, x = cl_cT108 v ∧ v.length ≤ maxLen := by
  obtain ⟨es, rfl, h1, h2, h3⟩ := h
  obtain ⟨xs, rfl, h4⟩ := rows_of (fun x hx => okc_108 hx) h3
  exact ⟨xs, rfl, by simpa using h1⟩
theorem okc_36 {x : List V} (h : Ok (.seq (.float .f32) (.seq (.float .f32) (.seq (.float .f32) (.seq (.float .f32) (.seq (.int .i64) (.unit)))))) x) : ∃ v : T105, x = cT105 v ∧ True := by
  obtain ⟨_, _, rfl, h0, h⟩ := h
  obtain ⟨v0, rfl, k0⟩ := okc_22 h0
  obtain ⟨_, _, rfl, h1, h⟩ := h
  obtain ⟨v1, rfl, k1⟩ := okc_22 h1
  obtain ⟨_, _, rfl, h2, h⟩ := h
  obtain ⟨v2, rfl, k2⟩ := okc_22 h2
  obtain ⟨_, _, rfl, h3, h⟩ := h
  obtain ⟨v3, rfl, k3⟩ := okc_22 h3
  obtain ⟨_, _, rfl, h4, h⟩ := h
  obtain ⟨v4, rfl, k4⟩ := okc_2 h4
  cases h
  exact ⟨⟨v0, v1, v2, v3, v4⟩, rfl, trivial⟩
theorem okc_38 {x : List V} (h : Ok (.seq (.seq (.slice 1 (.float .f32)) (.seq (.slice 1 (.float .f32)) (.seq (.slice 8 (.seq (.int .i64) (.seq (.int .i64) (.seq (.float .f32) (.seq (.float .f32) (.seq (.rep 4 (.float .f32)) (.unit))))))) (.seq (.slice 4 (.seq (.int .i64) (.seq (.int .i64) (.seq (.float .f32) (.seq (.float .f32) (.unit)))))) (.unit))))) (.seq (.slice 5 (.seq (.float .f32) (.seq (.float .f32) (.seq (.float .f32) (.seq (.float .f32) (.seq (.int .i64) (.unit))))))) (.seq (.slice 9 (.seq (.int .i64) (.seq (.int .i64) (.seq (.int .i64) (.seq (.seq (.slice 18 (.seq (.rep 6 (.float .f32)) (.seq (.rep 6 (.float .f32)) (.seq (.rep 6 (.float .f32)) (.unit))))) (.seq (.float .f32) (.seq (.float .f32) (.seq (.int .i8) (.seq (.int .i64) (.seq (.float .f32) (.unit))))))) (.unit)))))) (.seq (.slice 1 (.str)) (.seq (.slice 3 (.seq (.float .f32) (.seq (.float .f32) (.seq (.float .f32) (.unit))))) (.seq (.int .i64) (.seq (.seq (.float .f32) (.seq (.float .f32) (.seq (.float .f32) (.seq (.float .f32) (.seq (.int .i64) (.unit)))))) (.unit)))))))) x) : ∃ v : T38, x = cT38 v ∧ (v.flat_.heat_.length ≤ maxLen ∧ v.flat_.store_.length ≤ maxLen ∧ v.flat_.walls_.length ≤ maxLen ∧ v.flat_.panes_.length ≤ maxLen) ∧ v.chimney_.length ≤ maxLen ∧ (v.hearths_.length ≤ maxLen ∧ (∀ y ∈ v.hearths_, y.stove_.logs_.length ≤ maxLen)) ∧ (v.sources_.length ≤ maxLen ∧ (∀ y ∈ v.sources_, y.size ≤ maxLen)) ∧ v.hours_.length ≤ maxLen := by
  obtain ⟨_, _, rfl, h0, h⟩ := h
  obtain ⟨v0, rfl, k0⟩ := okc_30 h0
  obtain ⟨_, _, rfl, h1, h⟩ := h
  obtain ⟨v1, rfl, k1⟩ := okc_31 h1
  obtain ⟨_, _, rfl, h2, h⟩ := h
  obtain ⟨v2, rfl, k2⟩ := okc_32 h2
  obtain ⟨_, _, rfl, h3, h⟩ := h
  obtain ⟨v3, rfl, k3⟩ := okc_33 h3
  obtain ⟨_, _, rfl, h4, h⟩ := h
  obtain ⟨v4, rfl, k4⟩ := okc_34 h4
  obtain ⟨_, _, rfl, h5, h⟩ := h
  obtain ⟨v5, rfl, k5⟩ := okc_2 h5
  obtain ⟨_, _, rfl, h6, h⟩ := h
  obtain ⟨v6, rfl, k6⟩ := okc_36 h6
  cases h
  exact ⟨⟨v0, v1, v2, v3, v4, v5, v6⟩, rfl, k0, k1, k2, k3, k4⟩
theorem shp_38 : shp Try.prog 12 38 = some (.seq (.seq (.slice 1 (.float .f32)) (.seq (.slice 1 (.float .f32)) (.seq (.slice 8 (.seq (.int .i64) (.seq (.int .i64) (.seq (.float .f32) (.seq (.float .f32) (.seq (.rep 4 (.float .f32)) (.unit))))))) (.seq (.slice 4 (.seq (.int .i64) (.seq (.int .i64) (.seq (.float .f32) (.seq (.float .f32) (.unit)))))) (.unit))))) (.seq (.slice 5 (.seq (.float .f32) (.seq (.float .f32) (.seq (.float .f32) (.seq (.float .f32) (.seq (.int .i64) (.unit))))))) (.seq (.slice 9 (.seq (.int .i64) (.seq (.int .i64) (.seq (.int .i64) (.seq (.seq (.slice 18 (.seq (.rep 6 (.float .f32)) (.seq (.rep 6 (.float .f32)) (.seq (.rep 6 (.float .f32)) (.unit))))) (.seq (.float .f32) (.seq (.float .f32) (.seq (.int .i8) (.seq (.int .i64) (.seq (.float .f32) (.unit))))))) (.unit)))))) (.seq (.slice 1 (.str)) (.seq (.slice 3 (.seq (.float .f32) (.seq (.float .f32) (.seq (.float .f32) (.unit))))) (.seq (.int .i64) (.seq (.seq (.float .f32) (.seq (.float .f32) (.seq (.float .f32) (.seq (.float .f32) (.seq (.int .i64) (.unit)))))) (.unit)))))))) := by kernel_rfl
set_option maxRecDepth 100000 in
theorem FnExactSameHouse_walk (xs : List V) (h : OkAll Try.prog [38, 38] xs) : VCalls Try.prog 4 xs (fun r => r = .b true) := by
  obtain ⟨y0, ys0, rfl, h0, k0⟩ := h.cons_inv
  obtain ⟨y1, ys1, rfl, h1, k1⟩ := k0.cons_inv
  obtain rfl := k1.nil_inv
  obtain ⟨sh0, s0, h0⟩ := h0
  rw [shp_38] at s0
  cases s0
  unfold OkA at h0
  rw [ag_38] at h0
  obtain ⟨_, rfl, h0⟩ := h0
  obtain ⟨a0, rfl, b0⟩ := okc_38 h0
  obtain ⟨sh1, s1, h1⟩ := h1
  rw [shp_38] at s1
  cases s1
  unfold OkA at h1
  rw [ag_38] at h1
  obtain ⟨_, rfl, h1⟩ := h1
  obtain ⟨a1, rfl, b1⟩ := okc_38 h1
  exact ok4.2 _ _ (tells_eq inj4 (a := (a0, a1)) (law4 a0 a1 b0 b1))

set_option maxRecDepth 100000 in
theorem FnExactSameHouse_lifted (os : Os) (started : os.Started) (H : Type) (enc : TypeId × Value → H) :
    ReturnsInHanded {} Try.checked os 4 .any (Rows.fnExactSameHouseSpec.pre6 enc Try.prog Try.f4 Rows.fnExactSameHouseRow.domain false) (Rows.fnExactSameHouseSpec.post enc Try.prog Try.f4 false true false false) := by
  refine returnsInHanded_of_change (C := Try.checked) own started (by kernel_rfl) Try.func4
    (ChangeSpec.witness6 (enc := enc) (C := Try.checked) false ⟨#[], #[.agg #[.slice none 0 0, .slice none 0 0, .slice none 0 0, .slice none 0 0, .slice none 0 0, .slice none 0 0, .slice none 0 0, .slice none 0 0, .int .i64 0, .float .f32 0, .float .f32 0, .float .f32 0, .float .f32 0, .int .i64 0], .agg #[.slice none 0 0, .slice none 0 0, .slice none 0 0, .slice none 0 0, .slice none 0 0, .slice none 0 0, .slice none 0 0, .slice none 0 0, .int .i64 0, .float .f32 0, .float .f32 0, .float .f32 0, .float .f32 0, .int .i64 0]], []⟩ 8 (by kernel_rfl) (by kernel_rfl) (by kernel_rfl) (by kernel_rfl)) ?_
  intro W base args ds gs before hval0 hW hcnd _
  have hval : ∀ (j : Nat) t v, Try.f4.params[j]? = some t → args[j]? = some v → Value.okWide Try.prog W .any base t v := hval0
  have hW' := hW
  obtain ⟨p, q, hA0, hV, rfl, hfz, hnd⟩ := hW
  have hA : DataW.TrodAll enc Try.prog W 0 (fun _ => true) true Try.f4.params.toList args.toList ds p := hA0
  rw [Try.params4] at hA hval
  obtain ⟨xs, hS, hOk⟩ := args_S (by kernel_rfl) (fun j t v a b => hval j t v (by simpa using a) (by simpa using b)) hA
  obtain ⟨rfl, rfl⟩ := trodVars_none hV
  have hlen : ds.length = 2 := by
    obtain ⟨v0, vs0, d0, ds0, p0, q0, _, hds, _, _, r0⟩ := trodAll_cons hA
    obtain ⟨v1, vs1, d1, ds1, p1, q1, _, rfl, _, _, r1⟩ := trodAll_cons r0
    obtain ⟨_, rfl, _⟩ := trodAll_nil r1
    rw [hds]; rfl
  refine ((FnExactSameHouse_walk xs hOk).law hS (Glob.none (by kernel_rfl) (by kernel_rfl) (by kernel_rfl) W)).mono fun e W' ⟨he, bel⟩ => ?_
  subst he
  have hB := args_behind laidOut bel (by kernel_rfl) hA
  have hds : ∃ d0 d1, ds = [d0, d1] := by
    match ds, hlen with
    | [d0, d1], _ => exact ⟨d0, d1, rfl⟩
  obtain ⟨d0, d1, rfl⟩ := hds
  exact ⟨_, rfl, _, _, _, [], _, [], hW', trodAll_mk1 (shut_bool Try.underlying4 _), hB, rfl, bel.frame _, fun h => by cases h⟩

theorem FnExactSameHouse_proved : Rows.FnExactSameHouseSaid :=
  OpenClaim.holds_of_wide 4 Try.f4 rfl rfl rfl rfl rfl rfl rfl ⟨rfl, rfl, rfl, rfl, rfl⟩ rfl rfl rfl rfl rfl (by kernel_rfl) Try.func4 (by kernel_rfl)
    (of_decide_eq_true (by kernel_rfl)) (by unfold Func.isWrapper; first | (rw [if_pos (by decide +kernel)]; kernel_rfl) | (rw [if_neg (by decide +kernel)]; exact ⟨rfl, rfl⟩))
    (fun os started H enc _ => FnExactSameHouse_lifted os started H enc)

end Go.Proofs.Ytilkneilafpjiaa
