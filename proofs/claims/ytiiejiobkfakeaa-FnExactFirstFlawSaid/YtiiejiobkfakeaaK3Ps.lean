/- Plain laws: the stores behind a plan, and a repaired plan. -/
import Derived.Test.YtiiejiobkfakeaaK3Pb
import Derived.Test.YtiiejiobkfakeaaK3b
import Derived.Test.YtiiejiobkfakeaaK3b
import Derived.Test.YtiiejiobkfakeaaK3b

namespace Go.Proofs.Ytiiejiobkfakeaa
open Go.VL
set_option linter.unusedSimpArgs false
set_option linter.unusedVariables false

/-- A plan has a number for each slot, within bounds. -/
def Good (s : T24) (plan : List Int) : Prop := plan.length = s.need_.length ∧ ∀ x ∈ plan, 0 ≤ x ∧ x ≤ s.most_

theorem g65_eq {s : T24} {plan : List Int} (h : Small s) (hp : plan.length ≤ 1048576) : ∃ c, g65 s plan = some c ∧ (¬ Valid s → c = 1) ∧ (Valid s → ¬ Good s plan → c = 2) ∧ (Valid s → Good s plan → c = 0) := by
  obtain ⟨b2, e2, i2⟩ := g42_eq h
  unfold g65
  rw [e2, Option.bind_some]
  by_cases hv : Valid s
  rotate_left
  · have : b2 = false := by rw [Bool.eq_false_iff]; exact fun hb => hv (i2.1 hb)
    subst b2
    exact ⟨1, rfl, fun _ => rfl, fun h => absurd h hv, fun h => absurd h hv⟩
  rw [i2.2 hv]
  by_cases hl : plan.length = s.need_.length
  rotate_left
  · rw [if_neg (by simp), if_pos (by simp [eqI]; omega)]
    exact ⟨2, rfl, fun h => absurd hv h, fun _ _ => rfl, fun _ h => absurd h.1 hl⟩
  rw [if_neg (by simp), if_neg (by simp [eqI]; omega)]
  have hL := loop_scan (body := g65_L1 plan s) (n := plan.length) (fun i => if h : i < plan.length then (if 0 ≤ plan[i] ∧ plan[i] ≤ s.most_ then none else some (.inr 2)) else none) (.inl ()) (fun i hi => by
    rw [g65_L1, if_pos (by simp [ltI]; omega), idx_nat hi, Option.bind_some, succI (by omega), dif_pos hi]
    by_cases hx : 0 ≤ plan[i] ∧ plan[i] ≤ s.most_
    · rw [if_pos hx, if_neg (by simp [ltI]; omega)]
    · rw [if_neg hx, if_pos (by simp [ltI]; omega)]) (by
    rw [g65_L1, if_neg (by simp [ltI])])
  rw [hL]
  cases hf : (List.range plan.length).findSome? (fun i => if h : i < plan.length then (if 0 ≤ plan[i] ∧ plan[i] ≤ s.most_ then none else some (.inr 2 : Unit ⊕ Int)) else none) with
  | none =>
    refine ⟨0, rfl, fun h => absurd hv h, fun _ h => absurd ⟨hl, fun x hx => ?_⟩ h, fun _ _ => rfl⟩
    obtain ⟨i, hi, rfl⟩ := List.mem_iff_getElem.1 hx
    have := range_none.1 hf i hi
    rw [dif_pos hi] at this
    split at this
    · assumption
    · cases this
  | some r =>
    obtain ⟨i, hi, h1, _⟩ := range_some hf
    rw [dif_pos hi] at h1
    split at h1
    · cases h1
    · rename_i hn
      cases h1
      exact ⟨2, rfl, fun h => absurd hv h, fun _ _ => rfl, fun _ h => absurd (h.2 _ (List.getElem_mem hi)) hn⟩

theorem stores_eq {s : T24} {plan : List Int} (h : Small s) (hp : plan.length ≤ 1048576) : ∃ r, g60 s plan = some r ∧ g61 s plan = some r ∧ r.1.length ≤ 1048576 ∧ (r.2 = 0 → Valid s ∧ Good s plan) := by
  obtain ⟨b1, e1, i1⟩ := g39_eq h
  obtain ⟨b2, e2, i2⟩ := g57_eq (m := s.most_) hp
  obtain ⟨c, e3, c1, c2, c3⟩ := g65_eq h hp
  unfold g60 g61
  rw [e1, e3, Option.bind_some, Option.bind_some]
  by_cases hv : Valid s
  rotate_left
  · have : b1 = false := by rw [Bool.eq_false_iff]; exact fun hb => hv (i1.1 hb)
    subst b1
    rw [c1 hv]
    exact ⟨([], 1), rfl, rfl, by simp, by simp⟩
  rw [i1.2 hv]
  by_cases hg : Good s plan
  rotate_left
  · have hw : (if (!eqI (plan.length : Int) (s.need_.length : Int)) = true then some true else (g57 plan s.most_).bind fun r4 => some (!r4)) = some true := by
      by_cases hl : plan.length = s.need_.length
      · rw [if_neg (by simp [eqI]; omega), e2]
        have : b2 = false := by rw [Bool.eq_false_iff]; exact fun hb => hg ⟨hl, i2.1 hb⟩
        rw [this]; rfl
      · rw [if_pos (by simp [eqI]; omega)]
    rw [if_neg (by simp), hw, c2 hv hg]
    exact ⟨([], 2), rfl, rfl, by simp, by simp⟩
  have hw : (if (!eqI (plan.length : Int) (s.need_.length : Int)) = true then some true else (g57 plan s.most_).bind fun r4 => some (!r4)) = some false := by
    rw [if_neg (by simp [eqI]; have := hg.1; omega), e2, i2.2 hg.2]; rfl
  rw [if_neg (by simp), hw, c3 hv hg, Option.bind_some, if_neg (by simp), if_neg (by simp [eqI])]
  have n2 := hv.n2
  have hgl := hg.1
  obtain ⟨r, r', h1, h2, h3, h4⟩ := loopO_rel (b1 := g60_L1 plan s) (b2 := g61_L1 plan s) (fun x => plan.length - x.2.1.toNat)
    (fun x y => x = y ∧ ∃ i : Nat, x.2.1 = i ∧ i ≤ plan.length ∧ 0 ≤ x.1 ∧ x.1 ≤ s.store_ ∧ x.2.2.length = i)
    (fun r r' => r = r' ∧ match r with | .inl l => l.length ≤ 1048576 | .inr p => p.1.length ≤ 1048576)
    (fun x y ⟨hxy, i, hi, hle, hs0, hs1, hlen⟩ => by
      subst hxy
      obtain ⟨at_, k, l⟩ := x
      simp only at hi hle hs0 hs1 hlen
      subst hi
      rw [g60_L1, g61_L1]
      by_cases hlt : i < plan.length
      · obtain ⟨x1, x2⟩ := hg.2 _ (List.getElem_mem hlt)
        rw [if_pos (by simp [ltI]; omega), if_pos (by simp [ltI]; omega), idx_nat hlt, Option.bind_some, Option.bind_some, g58_eq hv (by omega) hs0 hs1 x1 x2, g53_eq hv (by omega) hs0 hs1 x1 x2]
        cases hf : aft s i at_ plan[i] with
        | none => right; exact ⟨.inr ([], 4), .inr ([], 4), by simp [ltI], by simp, rfl, by simp⟩
        | some v =>
          obtain ⟨f1, f2⟩ := aft_range hv hf
          left
          refine ⟨(v, ((i + 1 : Nat) : Int), l ++ [v]), (v, ((i + 1 : Nat) : Int), l ++ [v]), ?_, ?_, ⟨rfl, i + 1, rfl, by omega, f1, f2, by simp [hlen]⟩, by simp only; omega⟩
          · simp only [Option.bind_some]
            rw [if_neg (by simp [ltI]; omega), appK_of (by simp; omega) (by simp; omega), Option.bind_some, succI (by omega)]
          · simp only [Option.bind_some]
            rw [if_neg (by simp), appK_of (by simp; omega) (by simp; omega), Option.bind_some, succI (by omega)]
      · right
        refine ⟨.inl l, .inl l, ?_, ?_, rfl, by simp only; omega⟩
        · rw [if_neg (by simp [ltI]; omega)]
        · rw [if_neg (by simp [ltI]; omega)]) (s := (s.first_, 0, [])) (s' := (s.first_, 0, [])) ⟨rfl, 0, rfl, by omega, hv.first0, hv.first1, rfl⟩
  subst h3
  rw [h1, h2]
  cases r with
  | inl l => exact ⟨(l, 0), rfl, rfl, h4, fun _ => ⟨hv, hg⟩⟩
  | inr p => exact ⟨p, rfl, rfl, h4, fun _ => ⟨hv, hg⟩⟩

end Go.Proofs.Ytiiejiobkfakeaa
