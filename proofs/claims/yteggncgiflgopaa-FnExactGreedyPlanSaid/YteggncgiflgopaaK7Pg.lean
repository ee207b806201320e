/- The law of the greedy plan, without a program in sight. -/
import Derived.Test.YteggncgiflgopaaK7Pb
import Derived.Test.YteggncgiflgopaaK7b
namespace Go.Proofs.Yteggncgiflgopaa
open Go.VL
set_option linter.unusedSimpArgs false
set_option linter.unusedVariables false

/-! The greedy plan -/
theorem greedy_eq {s : T24} (h : Small s) : ∃ r, g28 s = some r ∧ g29 s = some r ∧ r.1.length ≤ 1048576 := by
  obtain ⟨b1, e1, i1⟩ := g51_eq h
  obtain ⟨b2, e2, i2⟩ := g18_eq h
  unfold g28 g29
  rw [e1, e2, Option.bind_some, Option.bind_some]
  by_cases hv : Valid s
  rotate_left
  · have : b1 = false := by rw [Bool.eq_false_iff]; exact fun hb => hv (i1.1 hb)
    have : b2 = false := by rw [Bool.eq_false_iff]; exact fun hb => hv (i2.1 hb)
    subst b1 b2
    exact ⟨([], 1), rfl, rfl, by simp⟩
  rw [i1.2 hv, i2.2 hv]
  have n2 := hv.n2
  obtain ⟨r, r', h1, h2, h3, h4⟩ := loopO_rel (b1 := g28_L1 s) (b2 := g29_L1 s) (fun x => s.need_.length - x.2.1.toNat)
    (fun x y => x = y ∧ ∃ i : Nat, x.2.1 = i ∧ i ≤ s.need_.length ∧ 0 ≤ x.1 ∧ x.1 ≤ s.store_ ∧ x.2.2.length = i)
    (fun r r' => r = r' ∧ match r with | .inl l => l.length ≤ 1048576 | .inr p => p.1.length ≤ 1048576)
    (fun x y ⟨hxy, i, hi, hle, hs0, hs1, hlen⟩ => by
      subst hxy
      obtain ⟨at_, k, l⟩ := x
      simp only at hi hle hs0 hs1 hlen
      subst hi
      rw [g28_L1, g29_L1]
      by_cases hlt : i < s.need_.length
      · rw [if_pos (by simp [ltI]; omega), if_pos (by simp [ltI]; omega), g58_eq hv hlt hs0 hs1, g59_eq hv hlt hs0 hs1]
        cases hf : few s i at_ with
        | none => right; exact ⟨.inr ([], 6), .inr ([], 6), by simp [ltI], by simp, rfl, by simp⟩
        | some p =>
          obtain ⟨f1, f2, f3, f4, _⟩ := few_some hv hf
          left
          refine ⟨(p.2, ((i + 1 : Nat) : Int), l ++ [p.1]), (p.2, ((i + 1 : Nat) : Int), l ++ [p.1]), ?_, ?_, ⟨rfl, i + 1, rfl, by omega, f3, f4, by simp [hlen]⟩, by simp only; omega⟩
          · simp only [Option.bind_some]
            rw [if_neg (by simp [ltI]; omega), appK_of (by simp; omega) (by simp; omega), Option.bind_some, succI (by omega)]
          · simp only [Option.bind_some]
            rw [if_neg (by simp), appK_of (by simp; omega) (by simp; omega), Option.bind_some, succI (by omega)]
      · right
        refine ⟨.inl l, .inl l, ?_, ?_, rfl, by simp only; omega⟩
        · rw [if_neg (by simp [ltI]; omega)]
        · rw [if_neg (by simp [ltI]; omega)]) (s := (s.first_, 0, [])) (s' := (s.first_, 0, [])) ⟨rfl, 0, rfl, by omega, hv.first0, hv.first1, rfl⟩
  subst h3
  rw [h1, h2]
  cases r with
  | inl l => exact ⟨(l, 0), rfl, rfl, h4⟩
  | inr p => exact ⟨p, rfl, rfl, h4⟩

theorem law7 (s : T24) (h : s.need_.length ≤ maxLen ∧ s.price_.length ≤ maxLen) : g7 s = some true := by
  obtain ⟨h1, h2⟩ := h
  have m1 : g7_L1 = markB := by funext ⟨k, i, l⟩; rfl
  have m2 : g7_L2 = markB := by funext ⟨k, i, l⟩; rfl
  have m3 : g7_L3 = markB := by funext ⟨k, i, l⟩; rfl
  obtain ⟨r, e1, hsm⟩ := g15_eq h1 h2
  unfold g7
  rw [e1, Option.bind_some]
  by_cases hr : r < 0
  · rw [if_pos (by simp [ltI, hr])]
  rw [if_neg (by simp [ltI]; omega)]
  have hS := hsm hr
  obtain ⟨p, q1, q2, q3⟩ := greedy_eq hS
  have hS1 := hS.1
  have hS2 := hS.2
  simp only [g17_eq hS, Option.bind_some, q1, q2, g27_eq q3, g19_eq hS, m3, mark_eq (k := 1) (by omega) (by omega) hS1, g7_j1, m2]
  rw [mark_eq (by omega) (by omega) hS2]
  simp only [Option.bind_some, g7_j2, m1, g27_eq q3, mark_eq (k := 1) (by omega) (by omega) q3, g7_j3, g32_eq (k := 1) (by omega) (by omega) q3, g17_eq hS, q2, eqI, ltI]
  have c1 : ¬ ((1 : Int) + s.need_.length + s.price_.length < 0) := by omega
  have c2 : ¬ ((1 : Int) + p.1.length < 0) := by omega
  simp [c1, c2]
end Go.Proofs.Yteggncgiflgopaa
