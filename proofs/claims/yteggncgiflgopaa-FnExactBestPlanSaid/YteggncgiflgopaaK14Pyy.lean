/- The law of BestPlan, without a program in sight. -/
import Derived.Test.YteggncgiflgopaaK14Py
import Derived.Test.YteggncgiflgopaaK14b
namespace Go.Proofs.Yteggncgiflgopaa
open Go.VL
set_option linter.unusedSimpArgs false
set_option linter.unusedVariables false

theorem law14 (s : T24) (h : s.need_.length ≤ maxLen ∧ s.price_.length ≤ maxLen) : g14 s = some true := by
  obtain ⟨h1, h2⟩ := h
  have m1 : g14_L1 = markB := by funext ⟨k, i, l⟩; rfl
  have m2 : g14_L2 = markB := by funext ⟨k, i, l⟩; rfl
  have m3 : g14_L3 = markB := by funext ⟨k, i, l⟩; rfl
  obtain ⟨r, e1, hsm⟩ := g15_eq h1 h2
  unfold g14
  rw [e1, Option.bind_some]
  by_cases hr : r < 0
  · rw [if_pos (by simp [ltI, hr])]
  rw [if_neg (by simp [ltI]; omega)]
  have hS := hsm hr
  obtain ⟨p, q1, q2, q3⟩ := bestplan_eq hS
  have hS1 := hS.1
  have hS2 := hS.2
  simp only [g17_eq hS, Option.bind_some, q1, q2, g27_eq q3, g19_eq hS, m3, mark_eq (k := 1) (by omega) (by omega) hS1, g14_j1, m2]
  rw [mark_eq (by omega) (by omega) hS2]
  simp only [Option.bind_some, g14_j2, m1, g27_eq q3, mark_eq (k := 1) (by omega) (by omega) q3, g14_j3, g32_eq (k := 1) (by omega) (by omega) q3, g17_eq hS, q2, eqI, ltI]
  have c1 : ¬ ((1 : Int) + s.need_.length + s.price_.length < 0) := by omega
  have c2 : ¬ ((1 : Int) + p.1.length < 0) := by omega
  simp [c1, c2]
end Go.Proofs.Yteggncgiflgopaa
