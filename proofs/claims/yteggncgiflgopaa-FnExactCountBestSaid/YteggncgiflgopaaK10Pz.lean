/- Plain laws: how many cheapest plans there are, in the reference and in the program. -/
import Derived.Test.YteggncgiflgopaaK10Pv
import Derived.Test.YteggncgiflgopaaK10b
import Derived.Test.YteggncgiflgopaaK10b
namespace Go.Proofs.Yteggncgiflgopaa
open Go.VL
set_option linter.unusedSimpArgs false
set_option linter.unusedVariables false

section
variable {s : T24}
theorem g65_min (a : Int) : g65 a 1000000000 = some (minI a 1000000000) := by
  unfold g65 minI ltI
  by_cases h : (1000000000 : Int) < a
  · rw [if_pos (by simpa using h), if_pos h]
  · rw [if_neg (by simpa using h), if_neg h]

theorem count_logs (hv : Valid s) {T : List (List Int)} (hT : Rows s T 0) {k i : Nat} (hk : k < s.need_.length) (hi : i ≤ s.store_.toNat) (hkT : k < T.length) (hiT : i < T[k].length) (hne : eqI T[k][i] (-1) = false) {lk l0 : List Int} (hl : lk.length = s.store_.toNat + 1) (hl0 : l0.length = s.store_.toNat + 1) :
    ∃ r, loopO (g37_L3 s T (k : Int) (i : Int) lk) (0, l0) = some r ∧ loopO (g38_L3 s (k : Int) (i : Int) T lk) (0, l0) = some r ∧ r.length = s.store_.toNat + 1 := by
  have m0 := hv.most0
  have m1 := hv.most1
  have n2 := hv.n2
  have s0 := hv.store0
  have hk1 : k + 1 < T.length := by rw [hT.1]; omega
  have hr1 := hT.2 (k + 1) hk1 (Nat.zero_le _)
  have hp : k < s.price_.length := by rw [hv.pl]; exact hk
  have hk' : aI .i64 (k : Int) 1 = ((k + 1 : Nat) : Int) := succI (by omega)
  obtain ⟨r, r', e1, e2, e3, e4⟩ := loopO_rel (b1 := g37_L3 s T (k : Int) (i : Int) lk) (b2 := g38_L3 s (k : Int) (i : Int) T lk) (fun z : Int × List Int => s.most_.toNat + 1 - z.1.toNat)
    (fun z y => z = y ∧ ∃ q : Nat, z.1 = (q : Int) ∧ q ≤ s.most_.toNat + 1 ∧ z.2.length = s.store_.toNat + 1) (fun r r' => r = r' ∧ r.length = s.store_.toNat + 1)
    (fun z y ⟨hzy, q, g1, g2, g3⟩ => by
      subst hzy
      obtain ⟨lg, l⟩ := z
      simp only at g1 g3
      subst g1
      rw [g37_L3, g38_L3, aI64 (a := s.most_) (by omega) (by omega)]
      by_cases hq : q ≤ s.most_.toNat
      rotate_left
      · right
        exact ⟨l, l, by rw [if_neg (by simp [leI]; omega)]; simp, by rw [if_neg (by simp [ltI]; omega)], rfl, g3⟩
      left
      have hq' : aI .i64 (q : Int) 1 = ((q + 1 : Nat) : Int) := succI (by omega)
      have hil : i < l.length := by omega
      have hle : leI (q : Int) s.most_ = true := by simp [leI]; omega
      rw [if_pos hle, if_pos (by simp [ltI]; omega), g55_eq hv hk (by omega) (by omega) (by omega) (by omega), g56_eq hv hk (by omega) (by omega) (by omega) (by omega), hq', idx_nat hkT, Option.bind_some, Option.bind_some, idx_nat hiT, Option.bind_some, Option.bind_some, Option.bind_some, hne]
      cases ha : aft s k i q with
      | none => exact ⟨(((q + 1 : Nat) : Int), l), (((q + 1 : Nat) : Int), l), by simp [leI], by simp, ⟨rfl, q + 1, rfl, by omega, g3⟩, by simp only; omega⟩
      | some v =>
        obtain ⟨v1, v2⟩ := aft_range hv ha
        have hvl : v.toNat < T[k + 1].length := by rw [hr1]; omega
        have hvk : v.toNat < lk.length := by omega
        have hv0 : leI 0 v = true := by simp [leI]; omega
        simp only [Bool.not_false, hv0, if_true, hk', idx_nat hk1, Option.bind_some, idx_of v1 hvl, idx_nat hp, idx_nat hkT, idx_nat hiT]
        cases c1 : (!eqI T[k + 1][v.toNat] (-1))
        · exact ⟨(((q + 1 : Nat) : Int), l), (((q + 1 : Nat) : Int), l), by simp, by simp, ⟨rfl, q + 1, rfl, by omega, g3⟩, by simp only; omega⟩
        · simp only [if_true, Option.bind_some]
          cases c2 : eqI (aI .i64 (mI .i64 s.price_[k] (q : Int)) T[k + 1][v.toNat]) T[k][i]
          · exact ⟨(((q + 1 : Nat) : Int), l), (((q + 1 : Nat) : Int), l), by simp, by simp, ⟨rfl, q + 1, rfl, by omega, g3⟩, by simp only; omega⟩
          · simp only [if_true, idx_nat hil, Option.bind_some, idx_of v1 hvk, g65_min]
            exact ⟨(((q + 1 : Nat) : Int), _), (((q + 1 : Nat) : Int), _), rfl, rfl, ⟨rfl, q + 1, rfl, by omega, by simpa using g3⟩, by simp only; omega⟩) (s := (0, l0)) (s' := (0, l0)) ⟨rfl, 0, rfl, by omega, hl0⟩
  subst e3
  exact ⟨r, e1, e2, e4⟩

theorem count_row (hv : Valid s) {T : List (List Int)} (hT : Rows s T 0) {k : Nat} (hk : k < s.need_.length) {lk : List Int} (hl : lk.length = s.store_.toNat + 1) :
    ∃ r, loopO (g37_L2 s T (k : Int) lk) (0, List.replicate (aI .i64 s.store_ 1).toNat 0) = some r ∧ loopO (g38_L2 s T (k : Int) lk) (0, List.replicate (aI .i64 s.store_ 1).toNat 0) = some r ∧ r.length = s.store_.toNat + 1 := by
  have s0 := hv.store0
  have s1 := hv.store1
  have m0 := hv.most0
  have hst : aI .i64 s.store_ 1 = ((s.store_.toNat + 1 : Nat) : Int) := by rw [aI64 (by omega) (by omega)]; omega
  have hkT : k < T.length := by rw [hT.1]; omega
  have hr0 := hT.2 k hkT (Nat.zero_le _)
  obtain ⟨r, r', e1, e2, e3, e4⟩ := loopO_rel (b1 := g37_L2 s T (k : Int) lk) (b2 := g38_L2 s T (k : Int) lk) (fun z : Int × List Int => s.store_.toNat + 1 - z.1.toNat)
    (fun z y => z = y ∧ ∃ q : Nat, z.1 = (q : Int) ∧ q ≤ s.store_.toNat + 1 ∧ z.2.length = s.store_.toNat + 1) (fun r r' => r = r' ∧ r.length = s.store_.toNat + 1)
    (fun z y ⟨hzy, q, g1, g2, g3⟩ => by
      subst hzy
      obtain ⟨x, l⟩ := z
      simp only at g1 g3
      subst g1
      rw [g37_L2, g38_L2, List.length_replicate, hst, Int.toNat_natCast]
      by_cases hq : q ≤ s.store_.toNat
      rotate_left
      · right
        exact ⟨l, l, by rw [if_neg (by simp [leI]; omega)], by rw [if_neg (by simp [ltI]; omega)], rfl, g3⟩
      left
      have hq' : aI .i64 (q : Int) 1 = ((q + 1 : Nat) : Int) := succI (by omega)
      have hqT : q < T[k].length := by rw [hr0]; omega
      rw [if_pos (by simp [leI]; omega), if_pos (by simp [ltI]; omega), idx_nat hkT, Option.bind_some, idx_nat hqT, Option.bind_some]
      cases hne : eqI T[k][q] (-1)
      · obtain ⟨r, e1, e2, e3⟩ := count_logs hv hT hk hq hkT hqT hne hl g3
        rw [e1, e2]
        exact ⟨(((q + 1 : Nat) : Int), r), (((q + 1 : Nat) : Int), r), by simp [g37_j5, hq'], by simp [g38_j5, hq'], ⟨rfl, q + 1, rfl, by omega, e3⟩, by simp only; omega⟩
      · rw [loopO_inr (r := l) (by rw [g37_L3, if_pos (by simp [leI]; omega), idx_nat hkT, Option.bind_some, idx_nat hqT, Option.bind_some, hne]; simp)]
        exact ⟨(((q + 1 : Nat) : Int), l), (((q + 1 : Nat) : Int), l), by simp [g37_j5, hq'], by simp [g38_j5, hq'], ⟨rfl, q + 1, rfl, by omega, g3⟩, by simp only; omega⟩) (s := (0, List.replicate (aI .i64 s.store_ 1).toNat 0)) (s' := (0, List.replicate (aI .i64 s.store_ 1).toNat 0))
    ⟨rfl, 0, rfl, by omega, by rw [hst, List.length_replicate, Int.toNat_natCast]⟩
  subst e3
  exact ⟨r, e1, e2, e4⟩

theorem ones_rel (hv : Valid s) {l0 : List Int} (hl0 : l0.length = s.store_.toNat + 1) : ∃ r, loopO g37_L4 (0, l0) = some r ∧ loopO (g38_L4 s) (0, l0) = some r ∧ r.length = s.store_.toNat + 1 := by
  have s0 := hv.store0
  have s1 := hv.store1
  have hst : aI .i64 s.store_ 1 = ((s.store_.toNat + 1 : Nat) : Int) := by rw [aI64 (by omega) (by omega)]; omega
  obtain ⟨r, r', e1, e2, e3, e4⟩ := loopO_rel (b1 := g37_L4) (b2 := g38_L4 s) (fun z : Int × List Int => s.store_.toNat + 1 - z.1.toNat)
    (fun z y => z = y ∧ ∃ q : Nat, z.1 = (q : Int) ∧ q ≤ s.store_.toNat + 1 ∧ z.2.length = s.store_.toNat + 1) (fun r r' => r = r' ∧ r.length = s.store_.toNat + 1)
    (fun z y ⟨hzy, q, g1, g2, g3⟩ => by
      subst hzy
      obtain ⟨x, l⟩ := z
      simp only at g1 g3
      subst g1
      rw [g37_L4, g38_L4, List.length_replicate, hst, Int.toNat_natCast (n := s.store_.toNat + 1), g3]
      by_cases hq : q ≤ s.store_.toNat
      rotate_left
      · right
        exact ⟨l, l, by rw [if_neg (by simp [ltI]; omega)], by rw [if_neg (by simp [ltI]; omega)], rfl, g3⟩
      left
      have hql : q < l.length := by omega
      rw [if_pos (by simp [ltI]; omega), idx_nat hql, Option.bind_some, succI (by omega)]
      exact ⟨(((q + 1 : Nat) : Int), _), (((q + 1 : Nat) : Int), _), rfl, rfl, ⟨rfl, q + 1, rfl, by omega, by simpa using g3⟩, by simp only; omega⟩) (s := (0, l0)) (s' := (0, l0)) ⟨rfl, 0, rfl, by omega, hl0⟩
  subst e3
  exact ⟨r, e1, e2, e4⟩

theorem count_rel (hv : Valid s) {T : List (List Int)} (hT : Rows s T 0) {l0 : List Int} (hl0 : l0.length = s.store_.toNat + 1) :
    ∃ r, loopO (g37_L1 s T) (sI .i64 (s.need_.length : Int) 1, l0) = some r ∧ loopO (g38_L1 s T) (sI .i64 (s.need_.length : Int) 1, l0) = some r ∧ r.length = s.store_.toNat + 1 := by
  have s0 := hv.store0
  have s1 := hv.store1
  have n2 := hv.n2
  have hst : aI .i64 s.store_ 1 = ((s.store_.toNat + 1 : Nat) : Int) := by rw [aI64 (by omega) (by omega)]; omega
  have hmk : mk 8 (aI .i64 s.store_ 1) = some () := by rw [hst]; exact mk_of (by omega) (by simp; omega) (by simp; omega)
  obtain ⟨r, r', e1, e2, e3, e4⟩ := loopO_rel (b1 := g37_L1 s T) (b2 := g38_L1 s T) (fun z : Int × List Int => (z.1 + 1).toNat)
    (fun z y => z = y ∧ ∃ q : Nat, z.1 = (q : Int) - 1 ∧ q ≤ s.need_.length ∧ z.2.length = s.store_.toNat + 1) (fun r r' => r = r' ∧ r.length = s.store_.toNat + 1)
    (fun z y ⟨hzy, q, h1, h2, h3⟩ => by
      subst hzy
      obtain ⟨k, l⟩ := z
      simp only at h1 h3
      subst h1
      rw [g37_L1, g38_L1]
      cases q with
      | zero =>
        right
        exact ⟨l, l, by rw [if_neg (by simp [leI])], by rw [if_neg (by simp [leI])], rfl, h3⟩
      | succ q =>
        have e : ((q + 1 : Nat) : Int) - 1 = (q : Int) := by omega
        rw [e]
        obtain ⟨row, r1, r2, r3⟩ := count_row hv hT (k := q) (by omega) h3
        left
        refine ⟨((q : Int) - 1, row), ((q : Int) - 1, row), ?_, ?_, ⟨rfl, q, rfl, by omega, r3⟩, by simp only; omega⟩
        · rw [if_pos (by simp [leI]), hmk, Option.bind_some, r1, Option.bind_some, g37_j4, g37_j3, sI64 (by omega) (by omega)]
        · rw [if_pos (by simp [leI]), hmk, Option.bind_some, r2, Option.bind_some, g38_j4, g38_j3, sI64 (by omega) (by omega)]) (s := (sI .i64 (s.need_.length : Int) 1, l0)) (s' := (sI .i64 (s.need_.length : Int) 1, l0))
    ⟨rfl, s.need_.length, sI64 (by omega) (by omega), Nat.le_refl _, hl0⟩
  subst e3
  exact ⟨r, e1, e2, e4⟩

theorem count_eq (h : Small s) : ∃ r, g37 s = some r ∧ g38 s = some r := by
  obtain ⟨b1, e1, i1⟩ := g51_eq h
  obtain ⟨b2, e2, i2⟩ := g18_eq h
  unfold g37 g38
  rw [e1, e2, Option.bind_some, Option.bind_some]
  by_cases hv : Valid s
  rotate_left
  · have : b1 = false := by rw [Bool.eq_false_iff]; exact fun hb => hv (i1.1 hb)
    have : b2 = false := by rw [Bool.eq_false_iff]; exact fun hb => hv (i2.1 hb)
    subst b1 b2
    exact ⟨(0, 1), rfl, rfl⟩
  rw [i1.2 hv, i2.2 hv, if_neg (by simp), if_neg (by simp)]
  have s0 := hv.store0
  have s1 := hv.store1
  have hst : aI .i64 s.store_ 1 = ((s.store_.toNat + 1 : Nat) : Int) := by rw [aI64 (by omega) (by omega)]; omega
  have hmk : mk 8 (aI .i64 s.store_ 1) = some () := by rw [hst]; exact mk_of (by omega) (by simp; omega) (by simp; omega)
  obtain ⟨T, t1, t2, hT⟩ := values_eq hv
  obtain ⟨l, l1, l2, l3⟩ := ones_rel hv (l0 := List.replicate (aI .i64 s.store_ 1).toNat 0) (by rw [hst, List.length_replicate, Int.toNat_natCast])
  obtain ⟨r, r1, r2, r3⟩ := count_rel hv hT l3
  have hf : s.first_.toNat < r.length := by have := hv.first0; have := hv.first1; omega
  refine ⟨(r[s.first_.toNat], 0), ?_, ?_⟩
  · rw [t2, Option.bind_some, hmk, Option.bind_some, l1, Option.bind_some, g37_j1, r1, Option.bind_some, g37_j2, idx_of hv.first0 hf, Option.bind_some]
  · rw [t1, Option.bind_some, hmk, Option.bind_some, l2, Option.bind_some, g38_j1, r2, Option.bind_some, g38_j2, idx_of hv.first0 hf, Option.bind_some]
end
end Go.Proofs.Yteggncgiflgopaa
