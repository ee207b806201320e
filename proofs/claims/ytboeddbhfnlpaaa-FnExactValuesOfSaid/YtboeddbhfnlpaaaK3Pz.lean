/- Plain laws: the table of values of a valid season, told by both ways. -/
import Derived.Test.YtboeddbhfnlpaaaK3a
import Derived.Test.YtboeddbhfnlpaaaK3a
import Derived.Test.YtboeddbhfnlpaaaK3Pm
namespace Go.Proofs.Ytboeddbhfnlpaaa
open Go.VL
set_option linter.unusedSimpArgs false
set_option linter.unusedVariables false
section
variable {s : T23} {T : List (List Int)}
theorem small_of (hv : Valid s) : Small s := by have := hv.n2; have := hv.pl; exact ⟨by omega, by omega⟩
theorem val27 (hv : Valid s) : g27 s = some true := by
  obtain ⟨b, e, h⟩ := g27_eq (small_of hv)
  rw [e, h.2 hv]
theorem val30 (hv : Valid s) : g30 s = some true := by
  obtain ⟨b, e, h⟩ := g30_eq (small_of hv)
  rw [e, h.2 hv]
/-- The table, told by both. -/
theorem values_of (hv : Valid s) : ∃ T, g28 s = some T ∧ g31 s = some T ∧ TabOk s T 0 ∧ g6 s = some (T, 0) ∧ g8 s = some (T, 0) := by
  obtain ⟨T, t1, hT⟩ := tab_ok hv
  obtain ⟨T2, t2, t3, hR⟩ := values_eq hv
  have h28 : g28 s = some T ∧ g31 s = some T := by
    first
    | (rw [t1] at t2; cases t2; exact ⟨t3, t1⟩)
    | (rw [t1] at t3; cases t3; exact ⟨t1, t2⟩)
  refine ⟨T, h28.1, h28.2, hT, ?_, ?_⟩
  · unfold g6
    rw [val27 hv, Option.bind_some, if_neg (by simp), h28.1]
    rfl
  · unfold g8
    rw [val30 hv, Option.bind_some, if_neg (by simp), h28.2]
    rfl
end
end Go.Proofs.Ytboeddbhfnlpaaa
