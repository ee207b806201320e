/- The law of CountBest, without a program in sight. -/
import Derived.Test.YteggncgiflgopaaK10Pz
import Derived.Test.YteggncgiflgopaaK10b
namespace Go.Proofs.Yteggncgiflgopaa
open Go.VL
set_option linter.unusedSimpArgs false
set_option linter.unusedVariables false

theorem law10 (s : T24) (h : s.need_.length ≤ maxLen ∧ s.price_.length ≤ maxLen) : g10 s = some true := by
  obtain ⟨h1, h2⟩ := h
  obtain ⟨r, e1, hsm⟩ := g15_eq h1 h2
  unfold g10
  rw [e1, Option.bind_some]
  by_cases hr : r < 0
  · rw [if_pos (by simp [ltI, hr])]
  rw [if_neg (by simp [ltI]; omega)]
  have hS := hsm hr
  obtain ⟨p, q1, q2⟩ := count_eq hS
  simp [g17_eq hS, q1, q2, g19_eq hS, eqI]
end Go.Proofs.Yteggncgiflgopaa
