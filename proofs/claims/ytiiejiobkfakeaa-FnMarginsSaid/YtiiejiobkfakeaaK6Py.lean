/- Plain laws: the cheapest plan, in the reference and in the program. -/
import Derived.Test.YtiiejiobkfakeaaK6c
import Derived.Test.YtiiejiobkfakeaaK6c
import Derived.Test.YtiiejiobkfakeaaK6c
import Derived.Test.YtiiejiobkfakeaaK6Pv
import Derived.Test.YtiiejiobkfakeaaK6c

namespace Go.Proofs.Ytiiejiobkfakeaa
open Go.VL
set_option linter.unusedSimpArgs false
set_option linter.unusedVariables false

section
variable {s : T30}
theorem plan_rel (hv : Valid s) {T : List (List Int)} (hT : Rows s T 0) : ∃ l, loopO (g46_L1 s T) (s.first_, 0, []) = some l ∧ loopO (g27_L1 s T) (s.first_, 0, []) = some l ∧ l.length ≤ 24 := by
  have m0 := hv.most0
  have m1 := hv.most1
  have n2 := hv.n2
  obtain ⟨r, r', e1, e2, e3, e4⟩ := loopO_rel (b1 := g46_L1 s T) (b2 := g27_L1 s T) (fun z : Int × Int × List Int => s.need_.length - z.2.1.toNat)
    (fun z y => z = y ∧ ∃ i : Nat, z.2.1 = (i : Int) ∧ i ≤ s.need_.length ∧ 0 ≤ z.1 ∧ z.1 ≤ s.store_ ∧ z.2.2.length ≤ i) (fun r r' => r = r' ∧ r.length ≤ 24)
    (fun z y ⟨hzy, i, h1, h2, h3, h4, h5⟩ => by
      subst hzy
      obtain ⟨at_, k, l⟩ := z
      simp only at h1 h3 h4 h5
      subst h1
      rw [g46_L1, g27_L1]
      by_cases hlt : i < s.need_.length
      rotate_left
      · right
        exact ⟨l, l, by rw [if_neg (by simp [ltI]; omega)], by rw [if_neg (by simp [ltI]; omega)], rfl, by omega⟩
      left
      have hi0 : i < T.length := by rw [hT.1]; omega
      have hi1 : i + 1 < T.length := by rw [hT.1]; omega
      have hr0 := hT.2 i hi0 (Nat.zero_le _)
      have hr1 := hT.2 (i + 1) hi1 (Nat.zero_le _)
      have hp : i < s.price_.length := by rw [hv.pl]; exact hlt
      have hk' : aI .i64 (i : Int) 1 = ((i + 1 : Nat) : Int) := succI (by omega)
      obtain ⟨w, w', hw, hw', hww, w1, w2, w3⟩ := loopO_rel (b1 := g46_L2 s (i : Int) at_ T l) (b2 := g27_L2 s (i : Int) at_ T l) (fun z : Int => s.most_.toNat + 1 - z.toNat)
        (fun z y => z = y ∧ ∃ q : Nat, z = (q : Int) ∧ q ≤ s.most_.toNat + 1) (fun w w' => w = w' ∧ 0 ≤ w.1 ∧ w.1 ≤ s.store_ ∧ w.2.length ≤ i + 1)
        (fun z y ⟨hzy, q, g1, g2⟩ => by
          subst hzy
          subst g1
          rw [g46_L2, g27_L2, aI64 (a := s.most_) (by omega) (by omega)]
          by_cases hq : q ≤ s.most_.toNat
          rotate_left
          · right
            exact ⟨(at_, l), (at_, l), by rw [if_neg (by simp [leI]; omega)], by rw [if_neg (by simp [ltI]; omega)], rfl, h3, h4, by simp only; omega⟩
          have hq' : aI .i64 (q : Int) 1 = ((q + 1 : Nat) : Int) := succI (by omega)
          rw [if_pos (by simp [leI]; omega), if_pos (by simp [ltI]; omega), g58_eq hv hlt h3 h4 (by omega) (by omega), g53_eq hv hlt h3 h4 (by omega) (by omega), Option.bind_some, Option.bind_some, hq']
          cases ha : aft s i at_ q with
          | none => left; exact ⟨((q + 1 : Nat) : Int), ((q + 1 : Nat) : Int), by simp [leI], by simp, ⟨rfl, q + 1, rfl, by omega⟩, by omega⟩
          | some v =>
            obtain ⟨v1, v2⟩ := aft_range hv ha
            have hvl : v.toNat < T[i + 1].length := by rw [hr1]; omega
            have hal : at_.toNat < T[i].length := by rw [hr0]; omega
            have hv0 : leI 0 v = true := by simp [leI]; omega
            simp only [hv0, if_true, hk', idx_nat hi1, Option.bind_some, idx_of v1 hvl, idx_nat hp, idx_nat hi0, idx_of h3 hal]
            cases c1 : (!eqI T[i + 1][v.toNat] (-1))
            · left; exact ⟨((q + 1 : Nat) : Int), ((q + 1 : Nat) : Int), by simp, by simp, ⟨rfl, q + 1, rfl, by omega⟩, by omega⟩
            · simp only [if_true, Option.bind_some]
              cases c2 : eqI (aI .i64 (mI .i64 s.price_[i] (q : Int)) T[i + 1][v.toNat]) T[i][at_.toNat]
              · left; exact ⟨((q + 1 : Nat) : Int), ((q + 1 : Nat) : Int), by simp, by simp, ⟨rfl, q + 1, rfl, by omega⟩, by omega⟩
              · right
                refine ⟨(v, l ++ [(q : Int)]), (v, l ++ [(q : Int)]), ?_, ?_, rfl, v1, v2, by simp; omega⟩
                · simp only [if_true]
                  rw [appK_of (by simp; omega) (by simp; omega), Option.bind_some]
                · simp only [if_true]
                  rw [appK_of (by simp; omega) (by simp; omega), Option.bind_some]) (s := 0) (s' := 0) ⟨rfl, 0, rfl, by omega⟩
      subst hww
      refine ⟨(w.1, ((i + 1 : Nat) : Int), w.2), (w.1, ((i + 1 : Nat) : Int), w.2), ?_, ?_, ⟨rfl, i + 1, rfl, by omega, w1, w2, w3⟩, by simp only; omega⟩
      · rw [if_pos (by simp [ltI]; omega), hw, Option.bind_some]
        unfold g46_j2
        rw [succI (by omega)]
      · rw [if_pos (by simp [ltI]; omega), hw', Option.bind_some]
        unfold g27_j2
        rw [succI (by omega)]) (s := (s.first_, 0, [])) (s' := (s.first_, 0, [])) ⟨rfl, 0, rfl, by omega, hv.first0, hv.first1, by simp⟩
  subst e3
  exact ⟨r, e1, e2, e4⟩

end
end Go.Proofs.Ytiiejiobkfakeaa
