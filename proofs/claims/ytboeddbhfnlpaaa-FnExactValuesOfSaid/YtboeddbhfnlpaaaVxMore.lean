/- Lists of numbers as slices. -/
import Derived.Test.YtboeddbhfnlpaaaVxLoop
namespace Go.VL
open Go.RowKit
set_option linter.unusedSimpArgs false
set_option linter.unusedVariables false

def ints (xs : List Int) : List (List V) := xs.map fun x => [.i .i64 x]
def dec (es : List (List V)) : List Int := es.map fun e => match e with | [.i _ n] => n | _ => 0
def isInts (es : List (List V)) : Prop := es = ints (dec es)

@[simp] theorem dec_ints {xs : List Int} : dec (ints xs) = xs := by
  simp [dec, ints, Function.comp_def]
@[simp] theorem isInts_ints {xs : List Int} : isInts (ints xs) = True := by simp [isInts]
@[simp] theorem ints_length {xs : List Int} : (ints xs).length = xs.length := by simp [ints]
@[simp] theorem ints_get? {xs : List Int} {i : Nat} : (ints xs)[i]? = (xs[i]?).map fun x => [.i .i64 x] := by simp [ints]
@[simp] theorem ints_get {xs : List Int} {i : Nat} (h : i < (ints xs).length) : (ints xs)[i] = [.i .i64 (xs[i]'(by simpa using h))] := by simp [ints]
@[simp] theorem ints_plain {xs : List Int} : plainE (ints xs) = true := plainE_of fun x hx => by
  obtain ⟨n, _, rfl⟩ := List.mem_map.1 hx
  rfl
@[simp] theorem ints_snap {xs : List Int} : snapE (ints xs) = true := plainE_snap ints_plain
@[simp] theorem ints_frz {xs : List Int} : frzE (ints xs) = ints xs := frzE_same ints_plain
@[simp] theorem ints_inj {xs ys : List Int} : ints xs = ints ys ↔ xs = ys := by
  constructor
  · intro h
    have := congrArg dec h
    simpa using this
  · intro h; rw [h]
@[simp] theorem ints_take {xs : List Int} {n : Nat} : (ints xs).take n = ints (xs.take n) := by simp [ints]
@[simp] theorem ints_drop {xs : List Int} {n : Nat} : (ints xs).drop n = ints (xs.drop n) := by simp [ints]
@[simp] theorem ints_append {xs ys : List Int} : ints xs ++ ints ys = ints (xs ++ ys) := by simp [ints]
theorem ints_set {xs : List Int} {i : Nat} {x : Int} : (ints xs).set i [.i .i64 x] = ints (xs.set i x) := by simp [ints, List.map_set]
theorem ints_replicate {n : Nat} {x : Int} : List.replicate n [V.i .i64 x] = ints (List.replicate n x) := by simp [ints]
theorem ints_bnd {xs : List Int} {k : Nat} : ((ints xs).all fun x => x.all (bndV k)) = true := plainE_bnd ints_plain
@[simp] theorem ints_noB {xs : List Int} {b : Nat} : noBE b (ints xs) = true := plainE_noB ints_plain
@[simp] theorem ints_cellO {xs : List Int} : cellOE (ints xs) = true := cellE_O (plainE_cell ints_plain)
@[simp] theorem ints_cell {xs : List Int} : cellE (ints xs) = true := plainE_cell ints_plain
@[simp] theorem ints_nil : ints [] = [] := rfl
@[simp] theorem ints_snoc {xs : List Int} {v : Int} : ints xs ++ [[V.i .i64 v]] = ints (xs ++ [v]) := by simp [ints]
theorem isInts.get {es : List (List V)} (h : isInts es) : ∃ xs, es = ints xs := ⟨_, h⟩
theorem ints_fill {xs : List Int} {i : Nat} : fill i (ints xs) [V.i .i64 0] = ints (fill i xs 0) := by simp [fill, ints]

theorem ints_of {es : List (List V)} (h : ∀ x ∈ es, Ok (.int .i64) x) : ∃ xs, es = ints xs ∧ ∀ n ∈ xs, (Lit.int .i64 n).wf = true := by
  induction es with
  | nil => exact ⟨[], rfl, by simp⟩
  | cons e es ih =>
    obtain ⟨xs, rfl, h2⟩ := ih fun x hx => h x (by simp [hx])
    obtain ⟨n, rfl, hn⟩ := h e (by simp)
    refine ⟨n :: xs, rfl, fun x hx => ?_⟩
    rcases List.mem_cons.1 hx with rfl | hx
    · exact hn
    · exact h2 x hx

theorem all_drop {α : Type} {p : α → Bool} {xs : List α} {i : Nat} (h : i < xs.length) : (xs.drop i).all p = (p xs[i] && (xs.drop (i + 1)).all p) := by
  rw [List.drop_eq_getElem_cons h, List.all_cons]

theorem succ64 {i : Nat} (h : i < 4611686018427387904) : IntKind.i64.wrap ((i : Int) + 1) = ((i + 1 : Nat) : Int) := by rw [wrap64 (by omega) (by omega)]; rfl
end Go.VL
