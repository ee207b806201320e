/- A slice takes the place of another: block b1 is from now on number b0. -/
import Derived.Test.YtbohajclnmmkhaaGreatDoorVxOwn
namespace Go.VL
open Go.RowKit
set_option linter.unusedSimpArgs false
set_option linter.unusedVariables false

/-- What it is called behind the move. -/
def mv1 (b0 b1 : Nat) (v v' : V) : Prop :=
  match v' with
  | .any => True
  | v' => (∃ e len, v = .ref b1 e len ∧ v' = .ref b0 e len) ∨ (v = v' ∧ noBT b0 v = true ∧ noBT b1 v = true)
def mvL (b0 b1 : Nat) : List V → List V → Prop
  | [], [] => True
  | v :: s, v' :: s' => mv1 b0 b1 v v' ∧ mvL b0 b1 s s'
  | _, _ => False
theorem mvL.get {b0 b1 : Nat} : ∀ {s t : List V}, mvL b0 b1 s t → s.length = t.length ∧ ∀ (i : Nat) (b : V), t[i]? = some b → ∃ a, s[i]? = some a ∧ mv1 b0 b1 a b
  | [], [], _ => ⟨rfl, by simp⟩
  | a :: s, b :: t, h => by
    obtain ⟨h1, h2⟩ := mvL.get h.2
    refine ⟨by simp [h1], fun i x hx => ?_⟩
    cases i with
    | zero => simp at hx; subst hx; exact ⟨a, rfl, h.1⟩
    | succ i => simpa using h2 i x (by simpa using hx)
  | [], _ :: _, h => h.elim
  | _ :: _, [], h => h.elim
@[simp] theorem mvL_nil {b0 b1 : Nat} : mvL b0 b1 [] [] = True := rfl
@[simp] theorem mvL_cons {b0 b1 : Nat} {a b : V} {s t : List V} : mvL b0 b1 (a :: s) (b :: t) = (mv1 b0 b1 a b ∧ mvL b0 b1 s t) := rfl
@[simp] theorem mv1_any {b0 b1 : Nat} {a : V} : mv1 b0 b1 a .any = True := rfl

section
variable {w : World} {O O' : Nat → Prop} {φ φ' : Pl} {b0 b1 : Nat}
end

end Go.VL
