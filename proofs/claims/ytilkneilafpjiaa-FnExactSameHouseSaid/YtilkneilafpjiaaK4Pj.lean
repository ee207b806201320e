/- Plain law: SameHouse. -/
import Derived.Test.YtilkneilafpjiaaK4Pi
import Derived.Test.YtilkneilafpjiaaK4c
namespace Go.Proofs.Ytilkneilafpjiaa
open Go.VL
set_option linter.unusedSimpArgs false
set_option linter.unusedVariables false

theorem len_of {a : T38} (h : (a.flat_.heat_.length ≤ maxLen ∧ a.flat_.store_.length ≤ maxLen ∧ a.flat_.walls_.length ≤ maxLen ∧ a.flat_.panes_.length ≤ maxLen) ∧ a.chimney_.length ≤ maxLen ∧ (a.hearths_.length ≤ maxLen ∧ (∀ y ∈ a.hearths_, y.stove_.logs_.length ≤ maxLen)) ∧ (a.sources_.length ≤ maxLen ∧ (∀ y ∈ a.sources_, y.size ≤ maxLen)) ∧ a.hours_.length ≤ maxLen) : LenHouse a :=
  ⟨⟨h.1.1, h.1.2.1, h.1.2.2.1, h.1.2.2.2⟩, h.2.1, h.2.2.1.1, h.2.2.1.2, h.2.2.2.1.1, h.2.2.2.1.2, h.2.2.2.2⟩

theorem law4 (aH aG : T38) (h : (aH.flat_.heat_.length ≤ maxLen ∧ aH.flat_.store_.length ≤ maxLen ∧ aH.flat_.walls_.length ≤ maxLen ∧ aH.flat_.panes_.length ≤ maxLen) ∧ aH.chimney_.length ≤ maxLen ∧ (aH.hearths_.length ≤ maxLen ∧ (∀ y ∈ aH.hearths_, y.stove_.logs_.length ≤ maxLen)) ∧ (aH.sources_.length ≤ maxLen ∧ (∀ y ∈ aH.sources_, y.size ≤ maxLen)) ∧ aH.hours_.length ≤ maxLen)
    (g : (aG.flat_.heat_.length ≤ maxLen ∧ aG.flat_.store_.length ≤ maxLen ∧ aG.flat_.walls_.length ≤ maxLen ∧ aG.flat_.panes_.length ≤ maxLen) ∧ aG.chimney_.length ≤ maxLen ∧ (aG.hearths_.length ≤ maxLen ∧ (∀ y ∈ aG.hearths_, y.stove_.logs_.length ≤ maxLen)) ∧ (aG.sources_.length ≤ maxLen ∧ (∀ y ∈ aG.sources_, y.size ≤ maxLen)) ∧ aG.hours_.length ≤ maxLen) : g4 aH aG = some true := by
  unfold g4
  obtain ⟨r1, e1, k1⟩ := z7 (len_of h) (n := 1048576) (by omega) (by omega)
  rw [e1, Option.bind_some]
  rcases k1 with rfl | ⟨a1, b1, sH⟩
  · rw [if_pos (by simp [ltI])]
  rw [if_neg (by simp [ltI]; omega)]
  obtain ⟨r2, e2, k2⟩ := z7 (len_of g) a1 (by omega)
  rw [e2, Option.bind_some]
  rcases k2 with rfl | ⟨a2, b2, sG⟩
  · rw [if_pos (by simp [ltI])]
  rw [if_neg (by simp [ltI]; omega)]
  obtain ⟨x, h1, h2⟩ := house_same (g := aG) sH
  simp only [c9 sH, c9 sG, Option.bind_some, h1, h2, q11 sH, q11 sG]
  cases x <;> rfl
end Go.Proofs.Ytilkneilafpjiaa
