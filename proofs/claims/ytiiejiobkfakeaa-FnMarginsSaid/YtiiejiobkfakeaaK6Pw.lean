/- Plain laws: the least store, and the margin of a slot. -/
import Derived.Test.YtiiejiobkfakeaaK6c
import Derived.Test.YtiiejiobkfakeaaK6c
import Derived.Test.YtiiejiobkfakeaaK6Pv
import Derived.Test.YtiiejiobkfakeaaK6c
import Derived.Test.YtiiejiobkfakeaaK6c

namespace Go.Proofs.Ytiiejiobkfakeaa
open Go.VL
set_option linter.unusedSimpArgs false
set_option linter.unusedVariables false

theorem valid_store {s : T30} (hv : Valid s) {k : Int} (h1 : s.first_ ≤ k) (h2 : k ≤ 60) : Valid ⟨s.need_, s.price_, s.most_, s.yield_, k, s.first_, s.loss_⟩ := by
  have := hv.first0
  exact ⟨hv.n1, hv.n2, hv.pl, hv.need, hv.price, hv.most0, hv.most1, hv.yield0, hv.yield1, by simp only; omega, h2, hv.first0, h1, hv.loss0, hv.loss1⟩

theorem least_eq {s : T30} (h : Small s) : ∃ r, g29 s = some r ∧ g28 s = some r := by
  obtain ⟨b1, e1, i1⟩ := g39_eq h
  obtain ⟨b2, e2, i2⟩ := g42_eq h
  unfold g29 g28
  rw [e1, e2, Option.bind_some, Option.bind_some]
  by_cases hv : Valid s
  rotate_left
  · have : b1 = false := by rw [Bool.eq_false_iff]; exact fun hb => hv (i1.1 hb)
    have : b2 = false := by rw [Bool.eq_false_iff]; exact fun hb => hv (i2.1 hb)
    subst b1 b2
    exact ⟨(0, 1), rfl, rfl⟩
  rw [i1.2 hv, i2.2 hv, if_neg (by simp), if_neg (by simp)]
  have f0 := hv.first0
  obtain ⟨r, r', h1, h2, h3⟩ := loopO_rel (b1 := g29_L1 s) (b2 := g28_L1 s) (fun z => (61 - z.1).toNat)
    (fun z y => z.1 = y ∧ s.first_ ≤ y ∧ y ≤ 61) (fun r r' => match r, r' with | .inl _, .inl _ => True | .inr a, .inr b => a = b | _, _ => False)
    (fun z y ⟨h1, h2, h3⟩ => by
      obtain ⟨k, u⟩ := z
      simp only at h1
      subst h1
      rw [g29_L1, g28_L1]
      by_cases hk : k ≤ 60
      rotate_left
      · right
        exact ⟨.inl u, .inl k, by rw [if_neg (by simp [leI]; omega)], by rw [if_neg (by simp [leI]; omega)], trivial⟩
      obtain ⟨T, l, h0, h1, t1, t2, t3, t4, _⟩ := best_eq (valid_store hv h2 hk)
      rw [if_pos (by simp [leI]; omega), if_pos (by simp [leI]; omega), t1, t4, Option.bind_some, Option.bind_some, t2, Option.bind_some, t3, Option.bind_some]
      simp only
      cases hc : (!eqI T[0][s.first_.toNat] (-1))
      · left
        exact ⟨(aI .i64 k 1, k), aI .i64 k 1, by simp, by simp, ⟨rfl, by rw [aI64 (by omega) (by omega)]; omega, by rw [aI64 (by omega) (by omega)]; omega⟩, by simp only; rw [aI64 (by omega) (by omega)]; omega⟩
      · right
        exact ⟨.inr (k, 0), .inr (k, 0), by simp, by simp, rfl⟩) (s := (s.first_, s.store_)) (s' := s.first_) ⟨rfl, Int.le_refl _, by have := hv.first1; have := hv.store1; omega⟩
  rw [h1, h2]
  cases r with
  | inl a =>
    cases r' with
    | inl b => exact ⟨(0, 6), rfl, rfl⟩
    | inr b => exact h3.elim
  | inr a =>
    cases r' with
    | inl b => exact h3.elim
    | inr b => subst h3; exact ⟨a, rfl, rfl⟩
end Go.Proofs.Ytiiejiobkfakeaa
