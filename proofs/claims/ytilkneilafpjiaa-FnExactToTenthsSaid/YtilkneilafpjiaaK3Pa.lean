/- The law of ToTenths, without a program in sight. -/
import Derived.Test.YtilkneilafpjiaaK3a
import Derived.Test.YtilkneilafpjiaaVxFth
namespace Go.Proofs.Ytilkneilafpjiaa
open Go.VL
set_option linter.unusedSimpArgs false
set_option linter.unusedVariables false

theorem law3 (heat : F32) : g3 heat = some true := by
  have key : ∃ n, g12 heat = some n ∧ g6 heat = some n := by
    unfold g12 g6
    cases ha : mulF .f32 (some 1092616192) heat with
    | none => exact ⟨0, by simp [neF, ford], by simp [neF, ford, wide, fconv, roundE]⟩
    | some a =>
      have h1 := fop_num (op := .mul) ha
      obtain ⟨c, c1, c2⟩ := wide_num h1
      obtain ⟨d, d1, d2⟩ := roundE_num c2
      rw [c1, d1]
      have e1 : neF .f32 (some a) (some a) = false := by simp [neF, ford_self h1]
      have e2 : neF .f64 (some d) (some d) = false := by simp [neF, ford_self d2]
      simp only [e1, e2, Bool.false_eq_true, if_false]
      cases g1 : gtF .f64 (some d) (some 4674736138332667904) with
      | true => exact ⟨_, rfl, rfl⟩
      | false =>
        cases g2 : ltF .f64 (some d) (some 13898108450065350656) with
        | true => exact ⟨_, rfl, rfl⟩
        | false =>
          obtain ⟨n, hn⟩ := iOfF_some (ks := .f64) (k := .i16) (C := 32767) (j := -38) (jl := -37) d2 (by decide +kernel) (by decide +kernel) (by decide) (by decide) g1 g2 (by decide) (by decide) (by decide)
          simp only [Bool.false_eq_true, if_false, hn, Option.bind_some]
          exact ⟨n, rfl, rfl⟩
  obtain ⟨n, h1, h2⟩ := key
  unfold g3 g5
  simp [h1, h2, eqI]
end Go.Proofs.Ytilkneilafpjiaa
