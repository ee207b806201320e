/- Plain laws of the functions on seasons: what valid seasons are, what is copied, compared and marked. -/
import Derived.Test.YtboeddbhfnlpaaaK3a
import Derived.Test.YtboeddbhfnlpaaaK3a
import Derived.Test.YtboeddbhfnlpaaaK3a
import Derived.Test.YtboeddbhfnlpaaaK3a
import Derived.Test.YtboeddbhfnlpaaaVxPure
namespace Go.Proofs.Ytboeddbhfnlpaaa
open Go.VL
set_option linter.unusedSimpArgs false
set_option linter.unusedVariables false

def Small (s : T23) : Prop := s.need_.length ≤ 1048576 ∧ s.price_.length ≤ 1048576

theorem g44_eq {xs : List Int} {m : Int} (h : xs.length ≤ 1048576) : ∃ b, g44 xs m = some b ∧ (b = true ↔ ∀ x ∈ xs, 0 ≤ x ∧ x ≤ m) := by
  have hL := loop_scan (body := g44_L1 xs m) (n := xs.length) (fun i => if h : i < xs.length then (if 0 ≤ xs[i] ∧ xs[i] ≤ m then none else some (.inr false)) else none) (.inl ()) (fun i hi => by
    rw [g44_L1]
    simp only [ltI, show ((i : Int) < xs.length) = True by simp; omega, decide_true, if_true, idx_nat hi, Option.bind_some, succI (i := i) (by omega), g47, leI, dif_pos hi]
    by_cases hx : 0 ≤ xs[i] ∧ xs[i] ≤ m
    · rw [if_pos hx]; simp [hx.1, hx.2]
    · rw [if_neg hx]
      have : (decide (0 ≤ xs[i]) && decide (xs[i] ≤ m)) = false := by rw [Bool.eq_false_iff]; simpa using hx
      rw [this]
      simp) (by rw [g44_L1]; simp [ltI])
  unfold g44 g44_j1
  rw [hL]
  cases hf : (List.range xs.length).findSome? (fun i => if h : i < xs.length then (if 0 ≤ xs[i] ∧ xs[i] ≤ m then none else some (.inr false : Unit ⊕ Bool)) else none) with
  | none =>
    refine ⟨true, rfl, ⟨fun _ x hx => ?_, fun _ => rfl⟩⟩
    obtain ⟨i, hi, rfl⟩ := List.mem_iff_getElem.1 hx
    have := range_none.1 hf i hi
    rw [dif_pos hi] at this
    split at this
    · assumption
    · cases this
  | some r =>
    obtain ⟨i, hi, h1, _⟩ := range_some hf
    rw [dif_pos hi] at h1
    split at h1
    · cases h1
    · rename_i hn
      cases h1
      exact ⟨false, rfl, ⟨nofun, fun h => absurd (h _ (List.getElem_mem hi)) hn⟩⟩

structure Valid (s : T23) : Prop where
  n1 : 1 ≤ s.need_.length
  n2 : s.need_.length ≤ 24
  pl : s.price_.length = s.need_.length
  need : ∀ x ∈ s.need_, 0 ≤ x ∧ x ≤ 200
  price : ∀ x ∈ s.price_, 0 ≤ x ∧ x ≤ 1000
  most0 : 0 ≤ s.most_
  most1 : s.most_ ≤ 20
  yield0 : 1 ≤ s.yield_
  yield1 : s.yield_ ≤ 40
  store0 : 0 ≤ s.store_
  store1 : s.store_ ≤ 60
  first0 : 0 ≤ s.first_
  first1 : s.first_ ≤ s.store_
  loss0 : 0 ≤ s.loss_
  loss1 : s.loss_ ≤ 100

theorem g27_eq {s : T23} (h : Small s) : ∃ b, g27 s = some b ∧ (b = true ↔ Valid s) := by
  obtain ⟨b1, e1, i1⟩ := g44_eq (m := 200) h.1
  obtain ⟨b2, e2, i2⟩ := g44_eq (m := 1000) h.2
  unfold g27
  simp only [g47, leI, eqI, Option.bind_some, e1, e2]
  by_cases hA : 1 ≤ s.need_.length ∧ s.need_.length ≤ 24 ∧ s.price_.length = s.need_.length
  · have c1 : (decide ((1 : Int) ≤ s.need_.length) && decide ((s.need_.length : Int) ≤ 24) && ((s.price_.length : Int) == (s.need_.length : Int))) = true := by simp; omega
    rw [c1]
    cases b1
    · exact ⟨false, by simp, ⟨nofun, fun h => absurd (i1.2 h.need) (by simp)⟩⟩
    · cases b2
      · exact ⟨false, by simp, ⟨nofun, fun h => absurd (i2.2 h.price) (by simp)⟩⟩
      · simp only [if_true, Option.bind_some]
        by_cases q1 : 0 ≤ s.most_ ∧ s.most_ ≤ 20
        · by_cases q2 : 1 ≤ s.yield_ ∧ s.yield_ ≤ 40
          · by_cases q3 : 0 ≤ s.store_ ∧ s.store_ ≤ 60
            · by_cases q4 : 0 ≤ s.first_ ∧ s.first_ ≤ s.store_
              · refine ⟨_, by simp [q1.1, q1.2, q2.1, q2.2, q3.1, q3.2, q4.1, q4.2]; rfl, ⟨fun h => ?_, fun h => ?_⟩⟩
                · simp only [Bool.and_eq_true, decide_eq_true_eq] at h
                  exact ⟨hA.1, hA.2.1, hA.2.2, i1.1 rfl, i2.1 rfl, q1.1, q1.2, q2.1, q2.2, q3.1, q3.2, q4.1, q4.2, h.1, h.2⟩
                · simp [h.loss0, h.loss1]
              · have : (decide (0 ≤ s.first_) && decide (s.first_ ≤ s.store_)) = false := by rw [Bool.eq_false_iff]; simpa using q4
                exact ⟨false, by simp [q1.1, q1.2, q2.1, q2.2, q3.1, q3.2, this], ⟨nofun, fun h => absurd ⟨h.first0, h.first1⟩ q4⟩⟩
            · have : (decide (0 ≤ s.store_) && decide (s.store_ ≤ 60)) = false := by rw [Bool.eq_false_iff]; simpa using q3
              exact ⟨false, by simp [q1.1, q1.2, q2.1, q2.2, this], ⟨nofun, fun h => absurd ⟨h.store0, h.store1⟩ q3⟩⟩
          · have : (decide (1 ≤ s.yield_) && decide (s.yield_ ≤ 40)) = false := by rw [Bool.eq_false_iff]; simpa using q2
            exact ⟨false, by simp [q1.1, q1.2, this], ⟨nofun, fun h => absurd ⟨h.yield0, h.yield1⟩ q2⟩⟩
        · have : (decide (0 ≤ s.most_) && decide (s.most_ ≤ 20)) = false := by rw [Bool.eq_false_iff]; simpa using q1
          exact ⟨false, by simp [this], ⟨nofun, fun h => absurd ⟨h.most0, h.most1⟩ q1⟩⟩
  · have c1 : (decide ((1 : Int) ≤ s.need_.length) && decide ((s.need_.length : Int) ≤ 24) && ((s.price_.length : Int) == (s.need_.length : Int))) = false := by rw [Bool.eq_false_iff]; simp; omega
    rw [c1]
    exact ⟨false, by simp, ⟨nofun, fun h => absurd ⟨h.n1, h.n2, h.pl⟩ hA⟩⟩

theorem g30_eq {s : T23} (h : Small s) : ∃ b, g30 s = some b ∧ (b = true ↔ Valid s) := by
  unfold g30
  by_cases hA : 1 ≤ s.need_.length ∧ s.need_.length ≤ 24 ∧ s.price_.length = s.need_.length
  rotate_left
  · rw [if_pos (by simp [ltI, eqI]; omega)]
    exact ⟨false, rfl, ⟨nofun, fun h => absurd ⟨h.n1, h.n2, h.pl⟩ hA⟩⟩
  rw [if_neg (by simp [ltI, eqI]; omega)]
  have hL := loop_scan (body := g30_L1 s) (n := s.need_.length) (fun i => if h : i < s.need_.length ∧ i < s.price_.length then (if (0 ≤ s.need_[i] ∧ s.need_[i] ≤ 200) ∧ (0 ≤ s.price_[i] ∧ s.price_[i] ≤ 1000) then none else some (.inr false)) else none) (.inl ()) (fun i hi => by
    have hp : i < s.price_.length := by omega
    rw [g30_L1]
    simp only [ltI, show ((i : Int) < s.need_.length) = True by simp; omega, decide_true, if_true, idx_nat hi, idx_nat hp, Option.bind_some, succI (i := i) (by omega), dif_pos (And.intro hi hp)]
    by_cases x1 : s.need_[i] < 0 ∨ 200 < s.need_[i]
    · have hn : ¬ ((0 ≤ s.need_[i] ∧ s.need_[i] ≤ 200) ∧ (0 ≤ s.price_[i] ∧ s.price_[i] ≤ 1000)) := by omega
      rw [if_neg hn]
      have : (decide (s.need_[i] < 0) || decide (200 < s.need_[i])) = true := by simpa using x1
      simp [this]
    · have : (decide (s.need_[i] < 0) || decide (200 < s.need_[i])) = false := by rw [Bool.eq_false_iff]; simpa using x1
      rw [this]
      by_cases x2 : s.price_[i] < 0
      · have hn : ¬ ((0 ≤ s.need_[i] ∧ s.need_[i] ≤ 200) ∧ (0 ≤ s.price_[i] ∧ s.price_[i] ≤ 1000)) := by omega
        rw [if_neg hn]; simp [x2]
      · by_cases x3 : 1000 < s.price_[i]
        · have hn : ¬ ((0 ≤ s.need_[i] ∧ s.need_[i] ≤ 200) ∧ (0 ≤ s.price_[i] ∧ s.price_[i] ≤ 1000)) := by omega
          rw [if_neg hn]; simp [x2, x3]
        · have hn : ((0 ≤ s.need_[i] ∧ s.need_[i] ≤ 200) ∧ (0 ≤ s.price_[i] ∧ s.price_[i] ≤ 1000)) := by omega
          rw [if_pos hn]; simp [x2, x3]) (by rw [g30_L1]; simp [ltI])
  rw [hL]
  cases hf : (List.range s.need_.length).findSome? (fun i => if h : i < s.need_.length ∧ i < s.price_.length then (if (0 ≤ s.need_[i] ∧ s.need_[i] ≤ 200) ∧ (0 ≤ s.price_[i] ∧ s.price_[i] ≤ 1000) then none else some (.inr false : Unit ⊕ Bool)) else none) with
  | none =>
    have hall : ∀ i (h1 : i < s.need_.length) (h2 : i < s.price_.length), (0 ≤ s.need_[i] ∧ s.need_[i] ≤ 200) ∧ (0 ≤ s.price_[i] ∧ s.price_[i] ≤ 1000) := fun i h1 h2 => by
      have := range_none.1 hf i h1
      rw [dif_pos ⟨h1, h2⟩] at this
      split at this
      · assumption
      · cases this
    refine ⟨_, rfl, ⟨fun h => ?_, fun h => ?_⟩⟩
    · simp only [leI, Bool.and_eq_true, decide_eq_true_eq] at h
      refine ⟨hA.1, hA.2.1, hA.2.2, fun x hx => ?_, fun x hx => ?_, by omega, by omega, by omega, by omega, by omega, by omega, by omega, by omega, by omega, by omega⟩
      · obtain ⟨i, hi, rfl⟩ := List.mem_iff_getElem.1 hx
        exact (hall i hi (by omega)).1
      · obtain ⟨i, hi, rfl⟩ := List.mem_iff_getElem.1 hx
        exact (hall i (by omega) hi).2
    · simp [leI, h.most0, h.most1, h.yield0, h.yield1, h.store0, h.store1, h.first0, h.first1, h.loss0, h.loss1]
  | some r =>
    obtain ⟨i, hi, h1, _⟩ := range_some hf
    rw [dif_pos ⟨hi, by omega⟩] at h1
    split at h1
    · cases h1
    · rename_i hn
      cases h1
      exact ⟨false, rfl, ⟨nofun, fun h => absurd ⟨h.need _ (List.getElem_mem hi), h.price _ (List.getElem_mem (by omega))⟩ hn⟩⟩
end Go.Proofs.Ytboeddbhfnlpaaa

