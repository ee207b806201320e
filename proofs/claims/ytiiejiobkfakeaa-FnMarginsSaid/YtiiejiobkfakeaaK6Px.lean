/- Plain laws: the margin of a slot. -/
import Derived.Test.YtiiejiobkfakeaaK6c
import Derived.Test.YtiiejiobkfakeaaK6c
import Derived.Test.YtiiejiobkfakeaaK6c
import Derived.Test.YtiiejiobkfakeaaK6c
import Derived.Test.YtiiejiobkfakeaaK6Pv
import Derived.Test.YtiiejiobkfakeaaK6c
import Derived.Test.YtiiejiobkfakeaaK6c

namespace Go.Proofs.Ytiiejiobkfakeaa
open Go.VL
set_option linter.unusedSimpArgs false
set_option linter.unusedVariables false

theorem valid_more {s : T30} (hv : Valid s) {i : Nat} (hi : i < s.need_.length) (h : s.need_[i] ≠ 200) : Valid ⟨s.need_.set i (s.need_[i] + 1), s.price_, s.most_, s.yield_, s.store_, s.first_, s.loss_⟩ := by
  refine ⟨by simpa using hv.n1, by simpa using hv.n2, by simpa using hv.pl, fun x hx => ?_, hv.price, hv.most0, hv.most1, hv.yield0, hv.yield1, hv.store0, hv.store1, hv.first0, hv.first1, hv.loss0, hv.loss1⟩
  rcases List.mem_or_eq_of_mem_set hx with h1 | rfl
  · exact hv.need x h1
  · have := hv.need _ (List.getElem_mem hi)
    omega

theorem margin_eq {s : T30} (h : Small s) (slot : Int) : ∃ r, g26 s slot = some r ∧ g25 s slot = some r := by
  obtain ⟨b1, e1, i1⟩ := g39_eq h
  obtain ⟨b2, e2, i2⟩ := g42_eq h
  unfold g26 g25
  rw [e1, e2, Option.bind_some, Option.bind_some]
  by_cases hv : Valid s
  rotate_left
  · have : b1 = false := by rw [Bool.eq_false_iff]; exact fun hb => hv (i1.1 hb)
    have : b2 = false := by rw [Bool.eq_false_iff]; exact fun hb => hv (i2.1 hb)
    subst b1 b2
    exact ⟨(0, 1), rfl, rfl⟩
  rw [i1.2 hv, i2.2 hv, if_neg (by simp), if_neg (by simp)]
  have n2 := hv.n2
  have n1 := hv.n1
  rw [sI64 (by omega) (by omega)]
  by_cases hs : 0 ≤ slot ∧ slot < s.need_.length
  rotate_left
  · have c1 : (leI 0 slot && leI slot ((s.need_.length : Int) - 1)) = false := by rw [Bool.eq_false_iff]; simp [leI]; omega
    have c2 : (ltI slot 0 || leI (s.need_.length : Int) slot) = true := by simp [ltI, leI]; omega
    refine ⟨(0, 2), ?_, ?_⟩
    · rw [g51, Option.bind_some, c1]; rfl
    · rw [c2]; rfl
  have c1 : (leI 0 slot && leI slot ((s.need_.length : Int) - 1)) = true := by simp [leI]; omega
  have c2 : (ltI slot 0 || leI (s.need_.length : Int) slot) = false := by rw [Bool.eq_false_iff]; simp [ltI, leI]; omega
  have hlt : slot.toNat < s.need_.length := by omega
  rw [g51, Option.bind_some, c1, c2]
  simp only [Bool.not_true, Bool.false_eq_true, if_false, idx_of hs.1 hlt, Option.bind_some]
  cases hq : eqI s.need_[slot.toNat] 200
  rotate_left
  · exact ⟨(0, 2), rfl, rfl⟩
  simp only [Bool.false_eq_true, if_false]
  have hne : s.need_[slot.toNat] ≠ 200 := by intro e; rw [e] at hq; simp [eqI] at hq
  have hb := hv.need _ (List.getElem_mem hlt)
  obtain ⟨T, l, h0, h1, t1, t2, t3, t4, _⟩ := best_eq hv
  obtain ⟨T', l', h0', h1', t1', t2', t3', t4', _⟩ := best_eq (valid_more hv hlt hne)
  have ha : aI .i64 s.need_[slot.toNat] 1 = s.need_[slot.toNat] + 1 := aI64 (by omega) (by omega)
  have happ : appK 8 [] s.need_ = some () := appK_of (by simp; omega) (by simp; omega)
  rw [t1, t4, Option.bind_some, Option.bind_some, t2, Option.bind_some, t3, Option.bind_some]
  simp only [g52, happ, Option.bind_some, List.nil_append, idx_of hs.1 hlt, ha]
  rw [t1', t4', Option.bind_some, Option.bind_some, t2', Option.bind_some]
  simp only at t3' ⊢
  rw [t3', Option.bind_some]
  cases eqI T[0][s.first_.toNat] (-1)
  · cases eqI T'[0][s.first_.toNat] (-1)
    · exact ⟨_, rfl, rfl⟩
    · exact ⟨_, rfl, rfl⟩
  · exact ⟨_, rfl, rfl⟩
end Go.Proofs.Ytiiejiobkfakeaa
