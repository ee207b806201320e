/- Plain laws: what a plan costs beyond the cheapest, the form of a table and its first flaw, in the reference and in the program. -/
import Derived.Test.YtiiejiobkfakeaaK3Ps
import Derived.Test.YtiiejiobkfakeaaK3Pv
import Derived.Test.YtiiejiobkfakeaaK3b
import Derived.Test.YtiiejiobkfakeaaK3b
import Derived.Test.YtiiejiobkfakeaaK3b
import Derived.Test.YtiiejiobkfakeaaK3b
import Derived.Test.YtiiejiobkfakeaaK3b
import Derived.Test.YtiiejiobkfakeaaK3b
import Derived.Test.YtiiejiobkfakeaaK3b
import Derived.Test.YtiiejiobkfakeaaK3b
import Derived.Test.YtiiejiobkfakeaaK3b
namespace Go.Proofs.Ytiiejiobkfakeaa
open Go.VL
set_option linter.unusedSimpArgs false
set_option linter.unusedVariables false

theorem loopO_none {σ ρ : Type} {body : σ → Option (σ ⊕ ρ)} {x : σ} (h : body x = none) : loopO body x = none := by
  cases hl : loopO body x with
  | none => rfl
  | some r =>
    obtain ⟨n, hn⟩ := loopO_iff.1 hl
    cases n with
    | zero => cases hn
    | succ n => rw [loopN_succ, h] at hn; cases hn

/-- Two loops over numbers do the same. -/
theorem loop_congr {ρ : Type} {b1 b2 : Int → Option (Int ⊕ ρ)} (n : Nat) (h : ∀ i : Nat, i ≤ n → b1 i = b2 i) (hs : ∀ (i : Nat) t, i ≤ n → b1 i = some (.inl t) → i < n ∧ t = ((i + 1 : Nat) : Int)) : loopO b1 0 = loopO b2 0 := by
  have : ∀ k i : Nat, i + k = n → loopO b1 i = loopO b2 i := fun k => by
    induction k with
    | zero =>
      intro i hi
      have h1 := h i (by omega)
      cases hb : b1 i with
      | none => rw [loopO_none hb, loopO_none (h1.symm.trans hb)]
      | some x =>
        cases x with
        | inl t => have := hs i t (by omega) hb; omega
        | inr r => rw [loopO_inr hb, loopO_inr (h1.symm.trans hb)]
    | succ k ih =>
      intro i hi
      have h1 := h i (by omega)
      cases hb : b1 i with
      | none => rw [loopO_none hb, loopO_none (h1.symm.trans hb)]
      | some x =>
        cases x with
        | inl t =>
          obtain ⟨h2, rfl⟩ := hs i t (by omega) hb
          rw [loopO_inl hb, loopO_inl (h1.symm.trans hb)]
          exact ih (i + 1) (by omega)
        | inr r => rw [loopO_inr hb, loopO_inr (h1.symm.trans hb)]
  exact this n 0 (by omega)

theorem cost_loop (plan : List Int) (s : T24) : g45_L1 plan s = g47_L1 plan s := by
  funext ⟨a, k⟩
  rw [g45_L1, g47_L1]
  cases idx s.price_ k <;> cases idx plan k <;> simp

theorem cost_eq {s : T24} {plan : List Int} (h : Small s) (hp : plan.length ≤ 1048576) : ∃ r, g45 s plan = some r ∧ g47 s plan = some r ∧ (r.2 = 0 → Valid s ∧ Good s plan) := by
  obtain ⟨r, h1, h2, h3, h4⟩ := stores_eq h hp
  unfold g45 g47
  rw [h1, h2, Option.bind_some, Option.bind_some]
  by_cases hr : r.2 = 0
  rotate_left
  · have hc : (!eqI r.2 0) = true := by simp [eqI, hr]
    simp only [hc, if_true]
    exact ⟨_, rfl, rfl, fun h => absurd h hr⟩
  have hc : (!eqI r.2 0) = false := by simp [eqI, hr]
  simp only [hc, Bool.false_eq_true, if_false, cost_loop]
  obtain ⟨hv, hg⟩ := h4 hr
  have hpl := hv.pl
  have hgl := hg.1
  obtain ⟨x, hx, _⟩ := loopO_rule (body := g47_L1 plan s) (fun z : Int × Int => plan.length - z.2.toNat) (fun z => ∃ i : Nat, z.2 = (i : Int) ∧ i ≤ plan.length) (fun _ => True) (fun z ⟨i, h1, h2⟩ => by
    obtain ⟨a, k⟩ := z
    simp only at h1
    subst h1
    rw [g47_L1]
    by_cases hlt : i < plan.length
    · left
      rw [if_pos (by simp [ltI]; omega), idx_nat hlt, idx_nat (xs := s.price_) (by omega), Option.bind_some, Option.bind_some, succI (by omega)]
      exact ⟨_, rfl, ⟨i + 1, rfl, by omega⟩, by simp only; omega⟩
    · right
      rw [if_neg (by simp [ltI]; omega)]
      exact ⟨_, rfl, trivial⟩) (s := (0, 0)) ⟨0, rfl, by omega⟩
  rw [hx]
  exact ⟨(x, 0), rfl, rfl, fun _ => ⟨hv, hg⟩⟩

theorem regret_eq {s : T24} {plan : List Int} (h : Small s) (hp : plan.length ≤ 1048576) : ∃ r, g16 s plan = some r ∧ g18 s plan = some r := by
  obtain ⟨r, h1, h2, h3⟩ := cost_eq h hp
  unfold g16 g18
  rw [h1, h2, Option.bind_some, Option.bind_some]
  by_cases hr : r.2 = 0
  rotate_left
  · have hc : (!eqI r.2 0) = true := by simp [eqI, hr]
    simp only [hc, if_true]
    exact ⟨_, rfl, rfl⟩
  obtain ⟨hv, hg⟩ := h3 hr
  have hc : (!eqI r.2 0) = false := by simp [eqI, hr]
  simp only [hc, Bool.false_eq_true, if_false]
  obtain ⟨T, l, h0, h1, e1, e2, e3, e4, _⟩ := best_eq hv
  rw [e1, e4, Option.bind_some, Option.bind_some, e2, Option.bind_some, e3, Option.bind_some]
  exact ⟨_, rfl, rfl⟩

/-! ### The form of a table -/
theorem form_same (s : T24) (T : List (List Int)) : g40 s T = g43 s T := by
  unfold g40 g43
  have : g40_L1 T s = g43_L1 T s := by
    funext k
    rw [g40_L1, g43_L1]
    cases hk : idx T k with
    | none => rfl
    | some e =>
      have : g40_L2 T k s = g43_L2 e k s := by
        funext i
        rw [g40_L2, g43_L2, hk]
        simp only [Option.bind_some]
      rw [Option.bind_some, Option.bind_some, this]
      rfl
  rw [this]
  rfl

/-- A table has the form of one. -/
def Form (s : T24) (T : List (List Int)) : Prop := T.length = s.need_.length + 1 ∧ ∀ r ∈ T, r.length = s.store_.toNat + 1 ∧ ∀ x ∈ r, -1 ≤ x

theorem form_eq {s : T24} {T : List (List Int)} (hv : Valid s) (hT : T.length ≤ 1048576) (hR : ∀ r ∈ T, r.length ≤ 1048576) : ∃ b, g43 s T = some b ∧ (b = true → Form s T) := by
  have n2 := hv.n2
  have s0 := hv.store0
  have s1 := hv.store1
  unfold g43
  rw [aI64 (by omega) (by omega)]
  by_cases hl : T.length = s.need_.length + 1
  rotate_left
  · rw [if_pos (by simp [eqI]; omega)]
    exact ⟨false, rfl, nofun⟩
  rw [if_neg (by simp [eqI]; omega)]
  obtain ⟨r, hr, hR⟩ := loopO_rule (body := g43_L1 T s) (fun z => T.length - z.toNat) (fun z => ∃ i : Nat, z = (i : Int) ∧ i ≤ T.length ∧ ∀ j (h : j < T.length), j < i → T[j].length = s.store_.toNat + 1 ∧ ∀ x ∈ T[j], -1 ≤ x)
    (fun r => r = .inr false ∨ (r = .inl () ∧ Form s T)) (fun z ⟨i, h1, h2, h3⟩ => by
    subst h1
    rw [g43_L1]
    by_cases hlt : i < T.length
    rotate_left
    · right
      rw [if_neg (by simp [ltI]; omega)]
      refine ⟨_, rfl, .inr ⟨rfl, hl, fun r hr => ?_⟩⟩
      obtain ⟨j, hj, rfl⟩ := List.mem_iff_getElem.1 hr
      exact h3 j hj (by omega)
    rw [if_pos (by simp [ltI]; omega), idx_nat hlt, Option.bind_some, aI64 (by omega) (by omega)]
    by_cases hw : T[i].length = s.store_.toNat + 1
    rotate_left
    · right
      rw [if_pos (by simp [eqI]; omega)]
      exact ⟨_, rfl, .inl rfl⟩
    rw [if_neg (by simp [eqI]; omega)]
    have hlen := hR _ (List.getElem_mem hlt)
    obtain ⟨r, hr, hq⟩ := loopO_rule (body := g43_L2 T[i] (i : Int) s) (fun z => T[i].length - z.toNat) (fun z => ∃ j : Nat, z = (j : Int) ∧ j ≤ T[i].length ∧ ∀ q (h : q < T[i].length), q < j → -1 ≤ T[i][q])
      (fun r => r = .inr (.inr (.inr false)) ∨ (r = .inl () ∧ ∀ x ∈ T[i], -1 ≤ x)) (fun z ⟨j, g1, g2, g3⟩ => by
      subst g1
      rw [g43_L2]
      by_cases hjl : j < T[i].length
      rotate_left
      · right
        rw [if_neg (by simp [ltI]; omega)]
        refine ⟨_, rfl, .inr ⟨rfl, fun x hx => ?_⟩⟩
        obtain ⟨q, hq, rfl⟩ := List.mem_iff_getElem.1 hx
        exact g3 q hq (by omega)
      rw [if_pos (by simp [ltI]; omega), idx_nat hjl, Option.bind_some]
      by_cases hc : (ltI T[i][j] (-1) || (eqI (i : Int) (s.need_.length : Int) && (!eqI T[i][j] 0))) = true
      · right
        rw [if_pos hc]
        exact ⟨_, rfl, .inl rfl⟩
      · left
        rw [if_neg hc, succI (by omega)]
        refine ⟨_, rfl, ⟨j + 1, rfl, by omega, fun q hq hq2 => ?_⟩, by omega⟩
        by_cases hqj : q = j
        · subst hqj
          simp only [Bool.or_eq_true, not_or, ltI, decide_eq_true_eq] at hc
          omega
        · exact g3 q hq (by omega)) (s := 0) ⟨0, rfl, by omega, fun q _ h => by omega⟩
    rw [hr, Option.bind_some]
    rcases hq with rfl | ⟨rfl, hq⟩
    · right
      exact ⟨_, rfl, .inl rfl⟩
    · left
      unfold g43_j2
      rw [succI (by omega)]
      refine ⟨_, rfl, ⟨i + 1, rfl, by omega, fun j hj hj2 => ?_⟩, by omega⟩
      by_cases hji : j = i
      · subst hji; exact ⟨hw, hq⟩
      · exact h3 j hj (by omega)) (s := 0) ⟨0, rfl, by omega, fun j _ h => by omega⟩
  rw [hr, Option.bind_some]
  rcases hR with rfl | ⟨rfl, hR⟩
  · exact ⟨false, rfl, nofun⟩
  · exact ⟨true, rfl, fun _ => hR⟩

/-! ### The first flaw -/
theorem flaw_eq {s : T24} {T : List (List Int)} (hv : Valid s) (hT : Form s T) (hbig : ∀ r ∈ T, ∀ x ∈ r, x < 9223372036854775808) : ∃ r, g41 s T = some r ∧ g44 s T = some r := by
  have n2 := hv.n2
  have s0 := hv.store0
  have s1 := hv.store1
  have m0 := hv.most0
  have m1 := hv.most1
  have hpl := hv.pl
  obtain ⟨hT1, hT2⟩ := hT
  have lrow : ∀ i (h : i < T.length), T[i].length = s.store_.toNat + 1 := fun i h => (hT2 _ (List.getElem_mem h)).1
  have cell : ∀ i (h : i < T.length) j (h' : j < T[i].length), -1 ≤ T[i][j] ∧ T[i][j] < 9223372036854775808 := fun i h j h' => ⟨(hT2 _ (List.getElem_mem h)).2 _ (List.getElem_mem h'), hbig _ (List.getElem_mem h) _ (List.getElem_mem h')⟩
  unfold g41 g44
  obtain ⟨r, r', hr, hr', he⟩ := loopO_rel (b1 := g41_L1 s T) (b2 := g44_L1 s T) (fun z => s.need_.length - z.toNat) (fun z y => z = y ∧ ∃ k : Nat, z = (k : Int) ∧ k ≤ s.need_.length) (fun r r' => r = r') (fun z y ⟨hzy, k, h1, h2⟩ => by
    subst hzy
    subst h1
    rw [g41_L1, g44_L1]
    by_cases hk : k < s.need_.length
    rotate_left
    · right
      exact ⟨.inl (), .inl (), by rw [if_neg (by simp [ltI]; omega)], by rw [if_neg (by simp [ltI]; omega)], rfl⟩
    have hk0 : k < T.length := by omega
    have hk1 : k + 1 < T.length := by omega
    have hkp : k < s.price_.length := by omega
    have lk := lrow k hk0
    have lk1 := lrow (k + 1) hk1
    have hp := hv.price _ (List.getElem_mem hkp)
    rw [if_pos (by simp [ltI]; omega), if_pos (by simp [ltI]; omega), idx_nat hk0, Option.bind_some]
    obtain ⟨u, u', hu, hu', hq⟩ := loopO_rel (b1 := g41_L2 s (k : Int) T) (b2 := g44_L2 T[k] s (k : Int) T) (fun z => s.store_.toNat + 1 - z.toNat) (fun z y => z = y ∧ ∃ i : Nat, z = (i : Int) ∧ i ≤ s.store_.toNat + 1) (fun r r' => r = r' ∧ (r = .inl () ∨ ∃ a, r = .inr (.inr (.inr a)))) (fun z y ⟨hzy, i, g1, g2⟩ => by
      subst hzy
      subst g1
      rw [g41_L2, g44_L2]
      by_cases hi : i < s.store_.toNat + 1
      rotate_left
      · right
        exact ⟨.inl (), .inl (), by rw [if_neg (by simp [leI]; omega)], by rw [if_neg (by simp [ltI]; omega)], rfl, .inl rfl⟩
      have hik : i < T[k].length := by omega
      have ck := cell k hk0 i hik
      rw [if_pos (by simp [leI]; omega), if_pos (by simp [ltI]; omega), idx_nat hik, Option.bind_some]
      obtain ⟨v, v', hv1, hv2, hvv⟩ := loopO_rel (b1 := g41_L3 s (k : Int) (i : Int) T) (b2 := g44_L3 s (k : Int) (i : Int) T T[k][i]) (fun z => s.most_.toNat + 1 - z.toNat) (fun z y => z = y ∧ ∃ q : Nat, z = (q : Int) ∧ q ≤ s.most_.toNat + 1) (fun r r' => r = r' ∧ (r = .inl () ∨ ∃ a, r = .inr (.inr (.inr (.inr (.inr a))))) ) (fun z y ⟨hzy, q, f1, f2⟩ => by
        subst hzy
        subst f1
        rw [g41_L3, g44_L3, aI64 (a := s.most_) (by omega) (by omega)]
        by_cases hq : q ≤ s.most_.toNat
        rotate_left
        · right
          exact ⟨.inl (), .inl (), by rw [if_neg (by simp [leI]; omega)], by rw [if_neg (by simp [ltI]; omega)], rfl, .inl rfl⟩
        have hmul : 0 ≤ s.price_[k] * (q : Int) ∧ s.price_[k] * (q : Int) ≤ 1000 * 20 := mul_bnd hp.1 hp.2 (by omega) (by omega)
        rw [if_pos (by simp [leI]; omega), if_pos (by simp [ltI]; omega), g58_eq hv hk (by omega) (by omega) (by omega) (by omega), g53_eq hv hk (by omega) (by omega) (by omega) (by omega), Option.bind_some, Option.bind_some, succI (i := q) (by omega), succI (i := k) (by omega)]
        cases ha : aft s k i q with
        | none => left; exact ⟨((q + 1 : Nat) : Int), ((q + 1 : Nat) : Int), by simp [ltI], by simp, ⟨rfl, q + 1, rfl, by omega⟩, by omega⟩
        | some w =>
          obtain ⟨w1, w2⟩ := aft_range hv ha
          have hwl : w.toNat < T[k + 1].length := by omega
          have cw := cell (k + 1) hk1 w.toNat hwl
          simp only [idx_nat hk1, idx_of w1 hwl, idx_nat hk0, idx_nat hik, idx_nat hkp, Option.bind_some]
          rw [mI64 (by omega) (by omega), sI64 (by omega) (by omega)]
          rw [if_neg (show ¬ ltI w 0 = true by simp [ltI]; omega), Option.bind_some]
          simp only [Bool.not_true, Bool.false_eq_true, if_false]
          by_cases hy : T[k + 1][w.toNat] = -1
          · left
            refine ⟨((q + 1 : Nat) : Int), ((q + 1 : Nat) : Int), by simp [eqI, hy], ?_, ⟨rfl, q + 1, rfl, by omega⟩, by omega⟩
            simp [eqI, hy]
          · rw [if_neg (show ¬ eqI T[k + 1][w.toNat] (-1) = true by simp [eqI, hy])]
            by_cases hx : T[k][i] = -1
            · right
              refine ⟨_, _, by rw [if_pos (show eqI T[k][i] (-1) = true by simp [eqI, hx]), Option.bind_some, if_pos rfl], ?_, rfl, .inr ⟨_, rfl⟩⟩
              rw [if_pos (show (eqI T[k][i] (-1) && !eqI T[k + 1][w.toNat] (-1)) = true by simp [eqI, hx, hy])]
              simp
            · rw [if_neg (show ¬ eqI T[k][i] (-1) = true by simp [eqI, hx]), Option.bind_some, if_neg (show ¬ (eqI T[k][i] (-1) && !eqI T[k + 1][w.toNat] (-1)) = true by simp [eqI, hx])]
              by_cases hc : T[k + 1][w.toNat] < T[k][i] - s.price_[k] * (q : Int)
              · right
                refine ⟨_, _, by rw [if_pos (show ltI T[k + 1][w.toNat] (T[k][i] - s.price_[k] * (q : Int)) = true by simp [ltI, hc])], ?_, rfl, .inr ⟨_, rfl⟩⟩
                rw [if_pos (show (((!eqI T[k][i] (-1)) && !eqI T[k + 1][w.toNat] (-1)) && ltI T[k + 1][w.toNat] T[k][i]) = true by simp [eqI, ltI, hx, hy]; omega), sI64 (by omega) (by omega)]
                rw [Option.bind_some, Option.bind_some, if_pos (show ltI (s.price_[k] * (q : Int)) (T[k][i] - T[k + 1][w.toNat]) = true by simp [ltI]; omega)]
              · left
                refine ⟨((q + 1 : Nat) : Int), ((q + 1 : Nat) : Int), by rw [if_neg (show ¬ ltI T[k + 1][w.toNat] (T[k][i] - s.price_[k] * (q : Int)) = true by simpa [ltI] using hc)], ?_, ⟨rfl, q + 1, rfl, by omega⟩, by omega⟩
                by_cases hd : T[k + 1][w.toNat] < T[k][i]
                · rw [if_pos (show (((!eqI T[k][i] (-1)) && !eqI T[k + 1][w.toNat] (-1)) && ltI T[k + 1][w.toNat] T[k][i]) = true by simp [eqI, ltI, hx, hy, hd]), sI64 (by omega) (by omega)]
                  rw [Option.bind_some, Option.bind_some, if_neg (show ¬ ltI (s.price_[k] * (q : Int)) (T[k][i] - T[k + 1][w.toNat]) = true by simp [ltI]; omega)]
                · rw [if_neg (show ¬ (((!eqI T[k][i] (-1)) && !eqI T[k + 1][w.toNat] (-1)) && ltI T[k + 1][w.toNat] T[k][i]) = true by simp [ltI, hd])]
                  simp) (s := 0) (s' := 0) ⟨rfl, 0, rfl, by omega⟩
      obtain ⟨rfl, hvv⟩ := hvv
      rw [hv1, hv2, Option.bind_some]
      rcases hvv with rfl | ⟨a, rfl⟩
      · left
        refine ⟨((i + 1 : Nat) : Int), ((i + 1 : Nat) : Int), ?_, ?_, ⟨rfl, i + 1, rfl, by omega⟩, by omega⟩
        · unfold g41_j3; simp only; rw [succI (by omega)]
        · simp only [Option.bind_some]; unfold g44_j3; rw [succI (by omega)]
      · right
        exact ⟨_, _, rfl, rfl, rfl, .inr ⟨_, rfl⟩⟩) (s := 0) (s' := 0) ⟨rfl, 0, rfl, by omega⟩
    obtain ⟨rfl, hq⟩ := hq
    rw [hu, hu', Option.bind_some]
    rcases hq with rfl | ⟨a, rfl⟩
    · left
      refine ⟨((k + 1 : Nat) : Int), ((k + 1 : Nat) : Int), ?_, ?_, ⟨rfl, k + 1, rfl, by omega⟩, by omega⟩
      · unfold g41_j2; simp only; rw [succI (by omega)]
      · simp only [Option.bind_some]; unfold g44_j2; rw [succI (by omega)]
    · right
      exact ⟨_, _, rfl, rfl, rfl⟩) (s := 0) (s' := 0) ⟨rfl, 0, rfl, by omega⟩
  subst he
  rw [hr, hr', Option.bind_some]
  cases r with
  | inl y => exact ⟨_, rfl, rfl⟩
  | inr r => exact ⟨r, rfl, rfl⟩
end Go.Proofs.Ytiiejiobkfakeaa
