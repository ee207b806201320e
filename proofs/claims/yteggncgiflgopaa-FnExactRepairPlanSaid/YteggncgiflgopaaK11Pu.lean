/- The law of a repaired plan, without a program in sight. -/
import Derived.Test.YteggncgiflgopaaK11Ps
import Derived.Test.YteggncgiflgopaaK11b
namespace Go.Proofs.Yteggncgiflgopaa
open Go.VL
set_option linter.unusedSimpArgs false
set_option linter.unusedVariables false

theorem law11 (s : T24) (plan : List Int) (h : s.need_.length ≤ maxLen ∧ s.price_.length ≤ maxLen) (hp0 : plan.length ≤ maxLen) : g11 s plan = some true := by
  obtain ⟨h1, h2⟩ := h
  have m1 : g11_L1 = markB := by funext ⟨k, i, l⟩; rfl
  have m2 : g11_L2 = markB := by funext ⟨k, i, l⟩; rfl
  have m3 : g11_L3 = markB := by funext ⟨k, i, l⟩; rfl
  have m4 : g11_L4 = markB := by funext ⟨k, i, l⟩; rfl
  obtain ⟨r, e1, hsm⟩ := g15_eq h1 h2
  unfold g11
  by_cases hp : (1048576 : Int) < plan.length
  · rw [if_pos (by simp [ltI, hp])]
  rw [if_neg (by simp [ltI]; omega), e1, Option.bind_some]
  by_cases hr : r < 0
  · rw [if_pos (by simp [ltI, hr])]
  rw [if_neg (by simp [ltI]; omega)]
  have hS := hsm hr
  have hP : plan.length ≤ 1048576 := by omega
  obtain ⟨p, q1, q2, q3⟩ := repair_eq hS hP
  have hS1 := hS.1
  have hS2 := hS.2
  have q4 := q1
  simp only [g17_eq hS, g25_eq hP, Option.bind_some, q4, q2, g27_eq q3, g27_eq hP, g19_eq hS, m4, mark_eq (k := 1) (by omega) (by omega) hS1, g11_j1, m3]
  rw [mark_eq (by omega) (by omega) hS2]
  simp only [Option.bind_some, g11_j2, m2]
  rw [mark_eq (by omega) (by omega) hP]
  simp only [Option.bind_some, g11_j3, m1, g27_eq q3, mark_eq (k := 1) (by omega) (by omega) q3, g11_j4, g32_eq (k := 1) (by omega) (by omega) q3, g17_eq hS, g25_eq hP, q2, eqI, ltI]
  have c1 : ¬ ((1 : Int) + s.need_.length + s.price_.length + plan.length < 0) := by omega
  have c2 : ¬ ((1 : Int) + p.1.length < 0) := by omega
  simp [c1, c2]
end Go.Proofs.Yteggncgiflgopaa
