/- Floats: what is a number stays one, what is equal to itself, what fits an integer. -/
import Derived.Test.YtbohajclnmmkhaaGreatDoorVxExt
namespace Go.VL
open Go.RowKit
set_option linter.unusedSimpArgs false
set_option linter.unusedVariables false

theorem word_mod {f : Ieee.Format} {neg : Bool} {r : Nat} (h : r < f.signWeight) : f.word neg r % f.signWeight = r := by
  unfold Ieee.Format.word
  split
  · rw [Nat.add_mod_left]; exact Nat.mod_eq_of_lt h
  · exact Nat.mod_eq_of_lt h

theorem read_num {f : Ieee.Format} {neg : Bool} {r : Nat} (h : r ≤ f.infRung) (h2 : f.infRung < f.signWeight) : (f.read (f.word neg r)).isNaN = false := by
  rw [Bool.eq_false_iff]
  intro hn
  have := read_nan.1 hn
  rw [word_mod (by omega)] at this
  omega

theorem inf_lt (k : FloatKind) : k.format.infRung < k.format.signWeight := by cases k <;> decide

theorem nearest_num (k : FloatKind) (s : Bool) (m : Nat) (e : Int) : (k.decode (k.encode (.number s m e))).isNaN = false := by
  show (k.format.read (k.format.nearest s m e)).isNaN = false
  unfold Ieee.Format.nearest
  split
  · exact read_num (by omega) (inf_lt k)
  · exact read_num (Nat.min_le_right _ _) (inf_lt k)

theorem order_self {k : FloatKind} {b : Nat} (h : (k.decode b).isNaN = false) : k.format.order b b = some .eq := by
  have : ∀ d : Ieee.Datum, d.isNaN = false → d.order d = some .eq := fun d hd => by
    cases d with
    | number s m e => simp [Ieee.Datum.order]
    | infinity s => simp [Ieee.Datum.order]
    | nan s t => cases hd
  exact this _ h

theorem ford_self {k : FloatKind} {b : Nat} (h : (k.decode b).isNaN = false) : ford k (some b) (some b) = some .eq := order_self h

/-! ### What fits an integer -/
end Go.VL
