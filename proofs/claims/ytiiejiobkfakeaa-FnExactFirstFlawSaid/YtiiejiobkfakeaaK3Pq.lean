/- Plain laws of tables: what is copied, compared and counted; the laws of RegretOf, FirstFlaw and IsCertificate, without a program in sight. -/
import Derived.Test.YtiiejiobkfakeaaK3Pr
import Derived.Test.YtiiejiobkfakeaaK3b
import Derived.Test.YtiiejiobkfakeaaK3b
import Derived.Test.YtiiejiobkfakeaaK3b
namespace Go.Proofs.Ytiiejiobkfakeaa
open Go.VL
set_option linter.unusedSimpArgs false
set_option linter.unusedVariables false

theorem sz_season {s : T24} (h1 : s.need_.length ≤ maxLen) (h2 : s.price_.length ≤ maxLen) : ∃ r, g8 s 1048576 = some r ∧ (¬ r < 0 → Small s ∧ r ≤ 1048576) := by
  unfold g8
  rw [g38_eq h1 (by omega) (by omega)]
  simp only [Option.bind_some, ltI, decide_eq_true_eq]
  by_cases hc : (1048576 : Int) < s.need_.length
  · rw [if_pos hc, if_pos (by omega)]
    exact ⟨_, rfl, fun h => by omega⟩
  · rw [if_neg hc, if_neg (by omega), g38_eq h2 (by omega) (by omega)]
    simp only [Option.bind_some]
    by_cases hd : (1048576 : Int) - s.need_.length < s.price_.length
    · rw [if_pos hd, if_pos (by omega)]
      exact ⟨_, rfl, fun h => by omega⟩
    · rw [if_neg hd, if_neg (by omega)]
      exact ⟨_, rfl, fun _ => ⟨⟨by omega, by omega⟩, by omega⟩⟩

def SmallT (T : List (List Int)) : Prop := T.length ≤ 1048576 ∧ ∀ r ∈ T, r.length ≤ 1048576

theorem sz_table {T : List (List Int)} {n : Int} (h1 : T.length ≤ maxLen) (h2 : ∀ r ∈ T, r.length ≤ maxLen) (n0 : 0 ≤ n) (n1 : n ≤ 1048576) : ∃ r, g9 T n = some r ∧ (¬ r < 0 → SmallT T) := by
  have hm : maxLen = 9223372036854775807 := by decide
  unfold g9
  rw [sI64 (by omega) (by omega)]
  by_cases hc : n - (T.length : Int) < 0
  · rw [if_pos (by simp [ltI, hc])]
    exact ⟨_, rfl, fun h => by omega⟩
  rw [if_neg (by simp [ltI, hc])]
  obtain ⟨r, hr, hq⟩ := loopO_rule (body := g9_L1 T) (fun z : Int × Int => T.length - z.2.toNat) (fun z => ∃ i : Nat, z.2 = (i : Int) ∧ i ≤ T.length ∧ 0 ≤ z.1 ∧ z.1 ≤ 1048576 ∧ ∀ j (h : j < T.length), j < i → T[j].length ≤ 1048576)
    (fun r => r = .inr (-1) ∨ ∃ x, r = .inl x ∧ SmallT T) (fun z ⟨i, g1, g2, g3, g4, g5⟩ => by
    obtain ⟨l, k⟩ := z
    simp only at g1 g3 g4
    subst g1
    rw [g9_L1]
    by_cases hi : i < T.length
    rotate_left
    · right
      rw [if_neg (by simp [ltI]; omega)]
      refine ⟨_, rfl, .inr ⟨l, rfl, by omega, fun r hr => ?_⟩⟩
      obtain ⟨j, hj, rfl⟩ := List.mem_iff_getElem.1 hr
      exact g5 j hj (by omega)
    rw [if_pos (by simp [ltI]; omega), idx_nat hi, Option.bind_some, g38_eq (h2 _ (List.getElem_mem hi)) g3 g4, Option.bind_some]
    by_cases hd : l < (T[i].length : Int)
    · right
      rw [if_pos hd, if_pos (by simp [ltI])]
      exact ⟨_, rfl, .inl rfl⟩
    · left
      rw [if_neg hd, if_neg (by simp [ltI]; omega), succI (by omega)]
      refine ⟨_, rfl, ⟨i + 1, rfl, by omega, by simp only; omega, by simp only; omega, fun j hj hj2 => ?_⟩, by simp only; omega⟩
      by_cases hji : j = i
      · subst hji; omega
      · exact g5 j hj (by omega)) (s := (n - (T.length : Int), 0)) ⟨0, rfl, by omega, by simp only; omega, by simp only; omega, fun j _ h => by omega⟩
  rw [hr]
  rcases hq with rfl | ⟨x, rfl, hq⟩
  · exact ⟨-1, rfl, fun h => by omega⟩
  · exact ⟨x, rfl, fun _ => hq⟩

theorem to_table {T : List (List Int)} (h : SmallT T) : g12 T = some T := by
  obtain ⟨h1, h2⟩ := h
  have hL : loopO (g12_L1 T) (0, List.replicate (T.length : Int).toNat []) = some T := by
    have := loop_run (body := g12_L1 T) (fun i => ((i : Int), fill i T [])) T.length (fun i hi => by
      rw [g12_L1]
      simp only [ltI, show ((i : Int) < T.length) = True by simp; omega, decide_true, if_true, idx_nat hi, Option.bind_some, succI (i := i) (by omega), g17_eq (h2 _ (List.getElem_mem hi))]
      rw [idx_nat (by simpa using hi)]
      simp only [Option.bind_some, Int.toNat_natCast]
      rw [fill_set hi (List.getElem?_eq_getElem hi)]) (r := T) (by
      rw [g12_L1]
      simp [ltI, fill_all])
    simpa [fill_zero] using this
  unfold g12 g12_j1
  rw [mk_of (by omega) (by simp; omega) (by simp; omega)]
  simp only [Option.bind_some]
  rw [hL]
  rfl

theorem eq_table {T : List (List Int)} (h : SmallT T) : g15 T T = some true := by
  obtain ⟨h1, h2⟩ := h
  have hL := loop_scan (body := g15_L1 T T) (n := T.length) (fun _ => none) (.inl ()) (fun i hi => by
    rw [g15_L1]
    simp only [ltI, show ((i : Int) < T.length) = True by simp; omega, decide_true, if_true, idx_nat hi, Option.bind_some, succI (i := i) (by omega), g19_eq (h2 _ (List.getElem_mem hi)), Bool.not_true]
    simp) (by rw [g15_L1]; simp [ltI])
  rw [show (List.range T.length).findSome? (fun _ => (none : Option (Unit ⊕ Bool))) = none by simp] at hL
  unfold g15
  rw [hL]
  simp [eqI, g15_j1]

theorem flaw_first {s : T24} {T : List (List Int)} (h : Small s) (hT : SmallT T) (hb : ∀ r ∈ T, ∀ x ∈ r, x < 9223372036854775808) : ∃ r, g10 s T = some r ∧ g13 s T = some r := by
  obtain ⟨b1, e1, i1⟩ := g39_eq h
  obtain ⟨b2, e2, i2⟩ := g42_eq h
  unfold g10 g13
  rw [e1, e2, Option.bind_some, Option.bind_some]
  by_cases hv : Valid s
  rotate_left
  · have : b1 = false := by rw [Bool.eq_false_iff]; exact fun hb => hv (i1.1 hb)
    have : b2 = false := by rw [Bool.eq_false_iff]; exact fun hb => hv (i2.1 hb)
    subst b1 b2
    exact ⟨_, rfl, rfl⟩
  rw [i1.2 hv, i2.2 hv]
  obtain ⟨b, f1, f2⟩ := form_eq hv hT.1 hT.2
  rw [form_same, f1]
  cases b
  · exact ⟨_, rfl, rfl⟩
  obtain ⟨r, q1, q2⟩ := flaw_eq hv (f2 rfl) hb
  simp only [Bool.not_true, Bool.false_eq_true, if_false, Option.bind_some, q1, q2]
  cases r.2.2.2
  · exact ⟨_, rfl, rfl⟩
  · exact ⟨_, rfl, rfl⟩

theorem certificate_eq {s : T24} {plan : List Int} {T : List (List Int)} (h : Small s) (hp : plan.length ≤ 1048576) (hT : SmallT T) (hb : ∀ r ∈ T, ∀ x ∈ r, x < 9223372036854775808) : ∃ r, g20 s plan T = some r ∧ g21 s plan T = some r := by
  obtain ⟨r, h1, h2, h3⟩ := cost_eq h hp
  unfold g20 g21
  rw [h1, h2, Option.bind_some, Option.bind_some]
  by_cases hr : r.2 = 0
  rotate_left
  · have hc : (!eqI r.2 0) = true := by simp [eqI, hr]
    simp only [hc, if_true]
    exact ⟨_, rfl, rfl⟩
  have hc : (!eqI r.2 0) = false := by simp [eqI, hr]
  simp only [hc, Bool.false_eq_true, if_false]
  obtain ⟨hv, hg⟩ := h3 hr
  obtain ⟨b, f1, f2⟩ := form_eq hv hT.1 hT.2
  rw [form_same, f1]
  cases b
  · exact ⟨_, rfl, rfl⟩
  obtain ⟨q, q1, q2⟩ := flaw_eq hv (f2 rfl) hb
  obtain ⟨F1, F2⟩ := f2 rfl
  have hT0 : 0 < T.length := by omega
  have hlen := (F2 _ (List.getElem_mem hT0)).1
  have hf0 := hv.first0
  have hf1 := hv.first1
  have i1 : idx T 0 = some T[0] := idx_nat (n := 0) hT0
  have i2 : idx T[0] s.first_ = some T[0][s.first_.toNat] := idx_of hf0 (by omega)
  simp only [Bool.not_true, Bool.false_eq_true, if_false, Option.bind_some, q1, q2, i1, i2]
  have hsym : eqI T[0][s.first_.toNat] r.1 = eqI r.1 T[0][s.first_.toNat] := by
    simp only [eqI]
    exact BEq.comm
  rw [hsym]
  cases q.2.2.2 <;> exact ⟨_, rfl, rfl⟩

theorem law4 (s : T24) (plan : List Int) (h : s.need_.length ≤ maxLen ∧ s.price_.length ≤ maxLen) (hp0 : plan.length ≤ maxLen) : g4 s plan = some true := by
  obtain ⟨h1, h2⟩ := h
  unfold g4
  by_cases hp : (1048576 : Int) < plan.length
  · rw [if_pos (by simp [ltI, hp])]
  rw [if_neg (by simp [ltI]; omega)]
  obtain ⟨r, e1, hsm⟩ := sz_season h1 h2
  rw [e1, Option.bind_some]
  by_cases hr : r < 0
  · rw [if_pos (by simp [ltI, hr])]
  rw [if_neg (by simp [ltI]; omega)]
  obtain ⟨hS, _⟩ := hsm hr
  have hp' : plan.length ≤ 1048576 := by omega
  obtain ⟨p, q1, q2⟩ := regret_eq hS hp'
  simp [g11_eq hS, g17_eq hp', q1, q2, g14_eq hS, g19_eq hp', eqI]

theorem law3 (s : T24) (T : List (List Int)) (h : ((s.need_.length ≤ maxLen ∧ (∀ y ∈ s.need_, (Lit.int .i64 y).wf = true)) ∧ (s.price_.length ≤ maxLen ∧ (∀ y ∈ s.price_, (Lit.int .i64 y).wf = true)) ∧ (Lit.int .i64 s.most_).wf = true ∧ (Lit.int .i64 s.yield_).wf = true ∧ (Lit.int .i64 s.store_).wf = true ∧ (Lit.int .i64 s.first_).wf = true ∧ (Lit.int .i64 s.loss_).wf = true))
    (hT : T.length ≤ maxLen ∧ (∀ y ∈ T, y.length ≤ maxLen ∧ (∀ y_1 ∈ y, (Lit.int .i64 y_1).wf = true))) : g3 s T = some true := by
  obtain ⟨⟨h1, _⟩, ⟨h2, _⟩, _⟩ := h
  obtain ⟨t1, t2⟩ := hT
  unfold g3
  obtain ⟨r, e1, hsm⟩ := sz_season h1 h2
  rw [e1, Option.bind_some]
  by_cases hr : r < 0
  · rw [if_pos (by simp [ltI, hr])]
  rw [if_neg (by simp [ltI]; omega)]
  obtain ⟨hS, hr1⟩ := hsm hr
  obtain ⟨r2, e2, hsm2⟩ := sz_table t1 (fun r hr => (t2 r hr).1) (by omega) hr1
  rw [e2, Option.bind_some]
  by_cases hr2 : r2 < 0
  · rw [if_pos (by simp [ltI, hr2])]
  rw [if_neg (by simp [ltI]; omega)]
  have hTS := hsm2 hr2
  obtain ⟨p, q1, q2⟩ := flaw_first hS hTS (fun r hr x hx => (wf_i64 ((t2 r hr).2 x hx)).2)
  simp [g11_eq hS, to_table hTS, q1, q2, g14_eq hS, eq_table hTS, eqI]

theorem law5 (s : T24) (plan : List Int) (T : List (List Int)) (h : ((s.need_.length ≤ maxLen ∧ (∀ y ∈ s.need_, (Lit.int .i64 y).wf = true)) ∧ (s.price_.length ≤ maxLen ∧ (∀ y ∈ s.price_, (Lit.int .i64 y).wf = true)) ∧ (Lit.int .i64 s.most_).wf = true ∧ (Lit.int .i64 s.yield_).wf = true ∧ (Lit.int .i64 s.store_).wf = true ∧ (Lit.int .i64 s.first_).wf = true ∧ (Lit.int .i64 s.loss_).wf = true))
    (hp0 : plan.length ≤ maxLen ∧ (∀ y ∈ plan, (Lit.int .i64 y).wf = true)) (hT : T.length ≤ maxLen ∧ (∀ y ∈ T, y.length ≤ maxLen ∧ (∀ y_1 ∈ y, (Lit.int .i64 y_1).wf = true))) : g5 s plan T = some true := by
  obtain ⟨⟨h1, _⟩, ⟨h2, _⟩, _⟩ := h
  obtain ⟨t1, t2⟩ := hT
  unfold g5
  by_cases hp : (1048576 : Int) < plan.length
  · rw [if_pos (by simp [ltI, hp])]
  rw [if_neg (by simp [ltI]; omega)]
  have hp' : plan.length ≤ 1048576 := by omega
  obtain ⟨r, e1, hsm⟩ := sz_season h1 h2
  rw [e1, Option.bind_some]
  by_cases hr : r < 0
  · rw [if_pos (by simp [ltI, hr])]
  rw [if_neg (by simp [ltI]; omega)]
  obtain ⟨hS, hr1⟩ := hsm hr
  obtain ⟨r2, e2, hsm2⟩ := sz_table t1 (fun r hr => (t2 r hr).1) (by omega) hr1
  rw [e2, Option.bind_some]
  by_cases hr2 : r2 < 0
  · rw [if_pos (by simp [ltI, hr2])]
  rw [if_neg (by simp [ltI]; omega)]
  have hTS := hsm2 hr2
  obtain ⟨p, q1, q2⟩ := certificate_eq hS hp' hTS (fun r hr x hx => (wf_i64 ((t2 r hr).2 x hx)).2)
  simp [g11_eq hS, g17_eq hp', to_table hTS, q1, q2, g14_eq hS, g19_eq hp', eq_table hTS, eqI]
end Go.Proofs.Ytiiejiobkfakeaa
