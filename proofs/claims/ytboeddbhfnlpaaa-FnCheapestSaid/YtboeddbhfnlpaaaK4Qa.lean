/- Plain laws of the functions on seasons: what valid seasons are, what is copied, compared and marked. Plain laws: the store behind a slot, the least logs, the greedy plan; marks. Plain laws: seasons that are drawn. Plain laws: the table of least costs, and the cheapest plan. Plain laws: what the table of values tells. -/
import Derived.Test.YtboeddbhfnlpaaaK4b
import Derived.Test.YtboeddbhfnlpaaaK4b
import Derived.Test.YtboeddbhfnlpaaaK4b
import Derived.Test.YtboeddbhfnlpaaaK4b
import Derived.Test.YtboeddbhfnlpaaaVxPure
import Derived.Test.YtboeddbhfnlpaaaK4b
import Derived.Test.YtboeddbhfnlpaaaK4b
import Derived.Test.YtboeddbhfnlpaaaK4b
import Derived.Test.YtboeddbhfnlpaaaK4b
import Derived.Test.YtboeddbhfnlpaaaK4b
import Derived.Test.YtboeddbhfnlpaaaK4b
import Derived.Test.YtboeddbhfnlpaaaK4b
namespace Go.Proofs.Ytboeddbhfnlpaaa
open Go.VL
set_option linter.unusedSimpArgs false
set_option linter.unusedVariables false

def Small (s : T23) : Prop := s.need_.length ≤ 1048576 ∧ s.price_.length ≤ 1048576

theorem g44_eq {xs : List Int} {m : Int} (h : xs.length ≤ 1048576) : ∃ b, g44 xs m = some b ∧ (b = true ↔ ∀ x ∈ xs, 0 ≤ x ∧ x ≤ m) := by
  have hL := loop_scan (body := g44_L1 xs m) (n := xs.length) (fun i => if h : i < xs.length then (if 0 ≤ xs[i] ∧ xs[i] ≤ m then none else some (.inr false)) else none) (.inl ()) (fun i hi => by
    rw [g44_L1]
    simp only [ltI, show ((i : Int) < xs.length) = True by simp; omega, decide_true, if_true, idx_nat hi, Option.bind_some, succI (i := i) (by omega), g47, leI, dif_pos hi]
    by_cases hx : 0 ≤ xs[i] ∧ xs[i] ≤ m
    · rw [if_pos hx]; simp [hx.1, hx.2]
    · rw [if_neg hx]
      have : (decide (0 ≤ xs[i]) && decide (xs[i] ≤ m)) = false := by rw [Bool.eq_false_iff]; simpa using hx
      rw [this]
      simp) (by rw [g44_L1]; simp [ltI])
  unfold g44 g44_j1
  rw [hL]
  cases hf : (List.range xs.length).findSome? (fun i => if h : i < xs.length then (if 0 ≤ xs[i] ∧ xs[i] ≤ m then none else some (.inr false : Unit ⊕ Bool)) else none) with
  | none =>
    refine ⟨true, rfl, ⟨fun _ x hx => ?_, fun _ => rfl⟩⟩
    obtain ⟨i, hi, rfl⟩ := List.mem_iff_getElem.1 hx
    have := range_none.1 hf i hi
    rw [dif_pos hi] at this
    split at this
    · assumption
    · cases this
  | some r =>
    obtain ⟨i, hi, h1, _⟩ := range_some hf
    rw [dif_pos hi] at h1
    split at h1
    · cases h1
    · rename_i hn
      cases h1
      exact ⟨false, rfl, ⟨nofun, fun h => absurd (h _ (List.getElem_mem hi)) hn⟩⟩

structure Valid (s : T23) : Prop where
  n1 : 1 ≤ s.need_.length
  n2 : s.need_.length ≤ 24
  pl : s.price_.length = s.need_.length
  need : ∀ x ∈ s.need_, 0 ≤ x ∧ x ≤ 200
  price : ∀ x ∈ s.price_, 0 ≤ x ∧ x ≤ 1000
  most0 : 0 ≤ s.most_
  most1 : s.most_ ≤ 20
  yield0 : 1 ≤ s.yield_
  yield1 : s.yield_ ≤ 40
  store0 : 0 ≤ s.store_
  store1 : s.store_ ≤ 60
  first0 : 0 ≤ s.first_
  first1 : s.first_ ≤ s.store_
  loss0 : 0 ≤ s.loss_
  loss1 : s.loss_ ≤ 100

theorem g27_eq {s : T23} (h : Small s) : ∃ b, g27 s = some b ∧ (b = true ↔ Valid s) := by
  obtain ⟨b1, e1, i1⟩ := g44_eq (m := 200) h.1
  obtain ⟨b2, e2, i2⟩ := g44_eq (m := 1000) h.2
  unfold g27
  simp only [g47, leI, eqI, Option.bind_some, e1, e2]
  by_cases hA : 1 ≤ s.need_.length ∧ s.need_.length ≤ 24 ∧ s.price_.length = s.need_.length
  · have c1 : (decide ((1 : Int) ≤ s.need_.length) && decide ((s.need_.length : Int) ≤ 24) && ((s.price_.length : Int) == (s.need_.length : Int))) = true := by simp; omega
    rw [c1]
    cases b1
    · exact ⟨false, by simp, ⟨nofun, fun h => absurd (i1.2 h.need) (by simp)⟩⟩
    · cases b2
      · exact ⟨false, by simp, ⟨nofun, fun h => absurd (i2.2 h.price) (by simp)⟩⟩
      · simp only [if_true, Option.bind_some]
        by_cases q1 : 0 ≤ s.most_ ∧ s.most_ ≤ 20
        · by_cases q2 : 1 ≤ s.yield_ ∧ s.yield_ ≤ 40
          · by_cases q3 : 0 ≤ s.store_ ∧ s.store_ ≤ 60
            · by_cases q4 : 0 ≤ s.first_ ∧ s.first_ ≤ s.store_
              · refine ⟨_, by simp [q1.1, q1.2, q2.1, q2.2, q3.1, q3.2, q4.1, q4.2]; rfl, ⟨fun h => ?_, fun h => ?_⟩⟩
                · simp only [Bool.and_eq_true, decide_eq_true_eq] at h
                  exact ⟨hA.1, hA.2.1, hA.2.2, i1.1 rfl, i2.1 rfl, q1.1, q1.2, q2.1, q2.2, q3.1, q3.2, q4.1, q4.2, h.1, h.2⟩
                · simp [h.loss0, h.loss1]
              · have : (decide (0 ≤ s.first_) && decide (s.first_ ≤ s.store_)) = false := by rw [Bool.eq_false_iff]; simpa using q4
                exact ⟨false, by simp [q1.1, q1.2, q2.1, q2.2, q3.1, q3.2, this], ⟨nofun, fun h => absurd ⟨h.first0, h.first1⟩ q4⟩⟩
            · have : (decide (0 ≤ s.store_) && decide (s.store_ ≤ 60)) = false := by rw [Bool.eq_false_iff]; simpa using q3
              exact ⟨false, by simp [q1.1, q1.2, q2.1, q2.2, this], ⟨nofun, fun h => absurd ⟨h.store0, h.store1⟩ q3⟩⟩
          · have : (decide (1 ≤ s.yield_) && decide (s.yield_ ≤ 40)) = false := by rw [Bool.eq_false_iff]; simpa using q2
            exact ⟨false, by simp [q1.1, q1.2, this], ⟨nofun, fun h => absurd ⟨h.yield0, h.yield1⟩ q2⟩⟩
        · have : (decide (0 ≤ s.most_) && decide (s.most_ ≤ 20)) = false := by rw [Bool.eq_false_iff]; simpa using q1
          exact ⟨false, by simp [this], ⟨nofun, fun h => absurd ⟨h.most0, h.most1⟩ q1⟩⟩
  · have c1 : (decide ((1 : Int) ≤ s.need_.length) && decide ((s.need_.length : Int) ≤ 24) && ((s.price_.length : Int) == (s.need_.length : Int))) = false := by rw [Bool.eq_false_iff]; simp; omega
    rw [c1]
    exact ⟨false, by simp, ⟨nofun, fun h => absurd ⟨h.n1, h.n2, h.pl⟩ hA⟩⟩

theorem g30_eq {s : T23} (h : Small s) : ∃ b, g30 s = some b ∧ (b = true ↔ Valid s) := by
  unfold g30
  by_cases hA : 1 ≤ s.need_.length ∧ s.need_.length ≤ 24 ∧ s.price_.length = s.need_.length
  rotate_left
  · rw [if_pos (by simp [ltI, eqI]; omega)]
    exact ⟨false, rfl, ⟨nofun, fun h => absurd ⟨h.n1, h.n2, h.pl⟩ hA⟩⟩
  rw [if_neg (by simp [ltI, eqI]; omega)]
  have hL := loop_scan (body := g30_L1 s) (n := s.need_.length) (fun i => if h : i < s.need_.length ∧ i < s.price_.length then (if (0 ≤ s.need_[i] ∧ s.need_[i] ≤ 200) ∧ (0 ≤ s.price_[i] ∧ s.price_[i] ≤ 1000) then none else some (.inr false)) else none) (.inl ()) (fun i hi => by
    have hp : i < s.price_.length := by omega
    rw [g30_L1]
    simp only [ltI, show ((i : Int) < s.need_.length) = True by simp; omega, decide_true, if_true, idx_nat hi, idx_nat hp, Option.bind_some, succI (i := i) (by omega), dif_pos (And.intro hi hp)]
    by_cases x1 : s.need_[i] < 0 ∨ 200 < s.need_[i]
    · have hn : ¬ ((0 ≤ s.need_[i] ∧ s.need_[i] ≤ 200) ∧ (0 ≤ s.price_[i] ∧ s.price_[i] ≤ 1000)) := by omega
      rw [if_neg hn]
      have : (decide (s.need_[i] < 0) || decide (200 < s.need_[i])) = true := by simpa using x1
      simp [this]
    · have : (decide (s.need_[i] < 0) || decide (200 < s.need_[i])) = false := by rw [Bool.eq_false_iff]; simpa using x1
      rw [this]
      by_cases x2 : s.price_[i] < 0
      · have hn : ¬ ((0 ≤ s.need_[i] ∧ s.need_[i] ≤ 200) ∧ (0 ≤ s.price_[i] ∧ s.price_[i] ≤ 1000)) := by omega
        rw [if_neg hn]; simp [x2]
      · by_cases x3 : 1000 < s.price_[i]
        · have hn : ¬ ((0 ≤ s.need_[i] ∧ s.need_[i] ≤ 200) ∧ (0 ≤ s.price_[i] ∧ s.price_[i] ≤ 1000)) := by omega
          rw [if_neg hn]; simp [x2, x3]
        · have hn : ((0 ≤ s.need_[i] ∧ s.need_[i] ≤ 200) ∧ (0 ≤ s.price_[i] ∧ s.price_[i] ≤ 1000)) := by omega
          rw [if_pos hn]; simp [x2, x3]) (by rw [g30_L1]; simp [ltI])
  rw [hL]
  cases hf : (List.range s.need_.length).findSome? (fun i => if h : i < s.need_.length ∧ i < s.price_.length then (if (0 ≤ s.need_[i] ∧ s.need_[i] ≤ 200) ∧ (0 ≤ s.price_[i] ∧ s.price_[i] ≤ 1000) then none else some (.inr false : Unit ⊕ Bool)) else none) with
  | none =>
    have hall : ∀ i (h1 : i < s.need_.length) (h2 : i < s.price_.length), (0 ≤ s.need_[i] ∧ s.need_[i] ≤ 200) ∧ (0 ≤ s.price_[i] ∧ s.price_[i] ≤ 1000) := fun i h1 h2 => by
      have := range_none.1 hf i h1
      rw [dif_pos ⟨h1, h2⟩] at this
      split at this
      · assumption
      · cases this
    refine ⟨_, rfl, ⟨fun h => ?_, fun h => ?_⟩⟩
    · simp only [leI, Bool.and_eq_true, decide_eq_true_eq] at h
      refine ⟨hA.1, hA.2.1, hA.2.2, fun x hx => ?_, fun x hx => ?_, by omega, by omega, by omega, by omega, by omega, by omega, by omega, by omega, by omega, by omega⟩
      · obtain ⟨i, hi, rfl⟩ := List.mem_iff_getElem.1 hx
        exact (hall i hi (by omega)).1
      · obtain ⟨i, hi, rfl⟩ := List.mem_iff_getElem.1 hx
        exact (hall i (by omega) hi).2
    · simp [leI, h.most0, h.most1, h.yield0, h.yield1, h.store0, h.store1, h.first0, h.first1, h.loss0, h.loss1]
  | some r =>
    obtain ⟨i, hi, h1, _⟩ := range_some hf
    rw [dif_pos ⟨hi, by omega⟩] at h1
    split at h1
    · cases h1
    · rename_i hn
      cases h1
      exact ⟨false, rfl, ⟨nofun, fun h => absurd ⟨h.need _ (List.getElem_mem hi), h.price _ (List.getElem_mem (by omega))⟩ hn⟩⟩
end Go.Proofs.Ytboeddbhfnlpaaa

namespace Go.Proofs.Ytboeddbhfnlpaaa
open Go.VL
set_option linter.unusedSimpArgs false
set_option linter.unusedVariables false

def nd (s : T23) (i : Nat) : Int := s.need_.getD i 0
def pr (s : T23) (i : Nat) : Int := s.price_.getD i 0
/-- What is there behind a slot. -/
def left (s : T23) (i : Nat) (store logs : Int) : Int := store + logs * s.yield_ - nd s i
/-- The store behind a slot. -/
def aft (s : T23) (i : Nat) (store logs : Int) : Option Int :=
  if left s i store logs < 0 then none else some (minI (left s i store logs - (left s i store logs * s.loss_).tdiv 100) s.store_)

theorem nd_get {s : T23} {i : Nat} (h : i < s.need_.length) : s.need_[i] = nd s i := by simp [nd, List.getD, h]
theorem pr_get {s : T23} {i : Nat} (h : i < s.price_.length) : s.price_[i] = pr s i := by simp [pr, List.getD, h]
theorem nd_bnd {s : T23} (hv : Valid s) {i : Nat} (h : i < s.need_.length) : 0 ≤ nd s i ∧ nd s i ≤ 200 := by rw [← nd_get h]; exact hv.need _ (List.getElem_mem h)
theorem pr_bnd {s : T23} (hv : Valid s) {i : Nat} (h : i < s.need_.length) : 0 ≤ pr s i ∧ pr s i ≤ 1000 := by
  have h' : i < s.price_.length := by rw [hv.pl]; exact h
  rw [← pr_get h']; exact hv.price _ (List.getElem_mem h')

theorem mul_bnd {a b A B : Int} (h1 : 0 ≤ a) (h2 : a ≤ A) (h3 : 0 ≤ b) (h4 : b ≤ B) : 0 ≤ a * b ∧ a * b ≤ A * B :=
  ⟨Int.mul_nonneg h1 h3, Int.mul_le_mul h2 h4 h3 (by omega)⟩
theorem tdiv_bnd {a : Int} (h : 0 ≤ a) : 0 ≤ a.tdiv 100 ∧ a.tdiv 100 ≤ a := by
  rw [Int.tdiv_eq_ediv_of_nonneg h]; omega

theorem left_bnd {s : T23} (hv : Valid s) {i : Nat} (hi : i < s.need_.length) {store logs : Int} (h1 : 0 ≤ store) (h2 : store ≤ s.store_) (h3 : 0 ≤ logs) (h4 : logs ≤ s.most_) : -200 ≤ left s i store logs ∧ left s i store logs ≤ 860 ∧ 0 ≤ logs * s.yield_ ∧ logs * s.yield_ ≤ 800 := by
  obtain ⟨b1, b2⟩ := nd_bnd hv hi
  obtain ⟨m1, m2⟩ := mul_bnd (A := 20) (B := 40) h3 (by have := hv.most1; omega) (show 0 ≤ s.yield_ by have := hv.yield0; omega) hv.yield1
  have := hv.store1
  unfold left
  omega

theorem aft_range {s : T23} (hv : Valid s) {i : Nat} {store logs v : Int} (h : aft s i store logs = some v) : 0 ≤ v ∧ v ≤ s.store_ := by
  unfold aft at h
  split at h
  · cases h
  · rename_i hh
    obtain rfl := Option.some.inj h
    have p1 := Int.mul_nonneg (show 0 ≤ left s i store logs by omega) hv.loss0
    have p2 : left s i store logs * s.loss_ ≤ left s i store logs * 100 := Int.mul_le_mul_of_nonneg_left hv.loss1 (by omega)
    rw [Int.tdiv_eq_ediv_of_nonneg p1]
    have := hv.store0
    unfold minI
    split <;> omega

section
variable {s : T23} {i : Nat} {store logs : Int}
theorem aft_parts (hv : Valid s) (hi : i < s.need_.length) (h1 : 0 ≤ store) (h2 : store ≤ s.store_) (h3 : 0 ≤ logs) (h4 : logs ≤ s.most_) :
    mI .i64 logs s.yield_ = logs * s.yield_ ∧ aI .i64 store (logs * s.yield_) = store + logs * s.yield_ ∧ sI .i64 (store + logs * s.yield_) (nd s i) = left s i store logs ∧
    (0 ≤ left s i store logs → mI .i64 (left s i store logs) s.loss_ = left s i store logs * s.loss_ ∧ dI .i64 (left s i store logs * s.loss_) 100 = some ((left s i store logs * s.loss_).tdiv 100) ∧ sI .i64 (left s i store logs) ((left s i store logs * s.loss_).tdiv 100) = left s i store logs - (left s i store logs * s.loss_).tdiv 100) := by
  obtain ⟨b1, b2, b3, b4⟩ := left_bnd hv hi h1 h2 h3 h4
  have := hv.store1
  have e0 := nd_bnd hv hi
  have hl : store + logs * s.yield_ - nd s i = left s i store logs := rfl
  refine ⟨mI64 (by omega) (by omega), aI64 (by omega) (by omega), ?_, fun hh => ?_⟩
  · rw [sI64 (by omega) (by omega)]; rfl
  · obtain ⟨q1, q2⟩ := mul_bnd (A := 860) (B := 100) hh b2 hv.loss0 hv.loss1
    obtain ⟨t1, t2⟩ := tdiv_bnd q1
    exact ⟨mI64 (by omega) (by omega), dI64 (by omega) (by omega) (by omega), sI64 (by omega) (by omega)⟩

theorem g45_eq (hv : Valid s) (hi : i < s.need_.length) (h1 : 0 ≤ store) (h2 : store ≤ s.store_) (h3 : 0 ≤ logs) (h4 : logs ≤ s.most_) : g45 s (i : Int) store logs = some (match aft s i store logs with | none => -1 | some v => v) := by
  obtain ⟨p1, p2, p3, p4⟩ := aft_parts hv hi h1 h2 h3 h4
  unfold g45 aft
  rw [idx_nat hi, Option.bind_some, nd_get hi, p1, p2, p3]
  simp only [ltI, decide_eq_true_eq]
  by_cases hh : left s i store logs < 0
  · rw [if_pos hh, if_pos hh]
  · obtain ⟨r1, r2, r3⟩ := p4 (by omega)
    rw [if_neg hh, if_neg hh, r1, r2, Option.bind_some, r3]
    unfold g51 minI
    simp only [ltI, decide_eq_true_eq]
    split <;> rfl

theorem g37_eq (hv : Valid s) (hi : i < s.need_.length) (h1 : 0 ≤ store) (h2 : store ≤ s.store_) (h3 : 0 ≤ logs) (h4 : logs ≤ s.most_) : g37 s (i : Int) store logs = some (match aft s i store logs with | none => (0, false) | some v => (v, true)) := by
  obtain ⟨p1, p2, p3, p4⟩ := aft_parts hv hi h1 h2 h3 h4
  unfold g37 aft
  rw [idx_nat hi, Option.bind_some, nd_get hi, p1, p2, p3]
  simp only [ltI, decide_eq_true_eq]
  by_cases hh : left s i store logs < 0
  · rw [if_pos hh, if_pos hh]
  · obtain ⟨r1, r2, r3⟩ := p4 (by omega)
    rw [if_neg hh, if_neg hh, r1, r2, Option.bind_some, r3]

/-- The least number of logs that do, and the store behind them. -/
def few (s : T23) (i : Nat) (store : Int) : Option (Int × Int) := (List.range (s.most_.toNat + 1)).findSome? fun (n : Nat) => (aft s i store (n : Int)).map fun v => ((n : Int), v)

theorem few_some (hv : Valid s) {p : Int × Int} (h : few s i store = some p) : 0 ≤ p.1 ∧ p.1 ≤ s.most_ ∧ 0 ≤ p.2 ∧ p.2 ≤ s.store_ ∧ aft s i store p.1 = some p.2 := by
  obtain ⟨n, hn, h1, _⟩ := range_some h
  rw [Option.map_eq_some_iff] at h1
  obtain ⟨v, h2, rfl⟩ := h1
  obtain ⟨r1, r2⟩ := aft_range hv h2
  have := hv.most0
  exact ⟨by simp, by simp only; omega, r1, r2, h2⟩

end

/-! Marks -/
/-- A slice is filled with numbers. -/
noncomputable def markB : (Int × Int × List Int) → Option ((Int × Int × List Int) ⊕ (Int × List Int))
  | (k, i, l) =>
    if ltI i (l.length : Int) = true then
      (idx l i).bind fun e =>
      some (.inl (aI .i64 k 1, aI .i64 i 1, (l.set i.toNat k)))
    else
      some (.inr (k, l))

theorem mark_eq {l : List Int} {k : Int} (hk : 0 ≤ k) (hk2 : k ≤ 4611686018427387904) (hl : l.length ≤ 1048576) : loopO markB (k, 0, l) = some (k + l.length, marks k l.length) := by
  have hset : ∀ i, i < l.length → (marks k i ++ l.drop i).set i (k + i) = marks k (i + 1) ++ l.drop (i + 1) := fun i hi => by
    apply List.ext_getElem?
    intro j
    rw [List.getElem?_set]
    simp only [List.length_append, marks_length, List.length_drop]
    by_cases hj : i = j
    · subst hj
      rw [if_pos rfl, if_pos (by omega), List.getElem?_append_left (by simp), marks_get (by omega)]
    · rw [if_neg hj]
      by_cases hlt : j < i
      · rw [List.getElem?_append_left (by simpa using hlt), List.getElem?_append_left (by simp; omega), marks_get hlt, marks_get (by omega)]
      · rw [List.getElem?_append_right (by simp; omega), List.getElem?_append_right (by simp; omega)]
        simp only [marks_length, List.getElem?_drop]
        congr 1; omega
  have := loop_run (body := markB) (fun i => (k + i, (i : Int), marks k i ++ l.drop i)) l.length (fun i hi => by
    have hlen : (marks k i ++ l.drop i).length = l.length := by simp; omega
    rw [markB, hlen, if_pos (by simp [ltI]; omega), idx_nat (by omega), Option.bind_some, succI (by omega), aI64 (by omega) (by omega), Int.toNat_natCast, hset i hi]
    congr 3
    omega) (r := (k + l.length, marks k l.length)) (by
    rw [markB]
    have hlen : (marks k l.length ++ l.drop l.length).length = l.length := by simp
    rw [hlen, if_neg (by simp [ltI])]
    simp)
  simpa [marks] using this

end Go.Proofs.Ytboeddbhfnlpaaa


namespace Go.Proofs.Ytboeddbhfnlpaaa
open Go.VL
set_option linter.unusedSimpArgs false
set_option linter.unusedVariables false

/-- A source that can be drawn from. -/
structure SrcOk (s : T75) (n : Int) : Prop where
  bytes : ∀ x ∈ s.code_, 0 ≤ x ∧ x ≤ 255
  len : s.code_.length ≤ 1048576
  at0 : 0 ≤ s.at_
  at1 : s.at_ ≤ n

theorem wrapU {n : Int} (h1 : 0 ≤ n) (h2 : n < 18446744073709551616) : IntKind.u64.wrap n = n := by
  unfold IntKind.wrap
  have e1 : (2 ^ IntKind.u64.bits : Int) = 18446744073709551616 := by decide
  have e3 : IntKind.u64.signed = false := by decide
  simp only [e1, e3, Bool.false_and, Bool.false_eq_true, if_false]
  omega
theorem and255 (x : Int) : 0 ≤ cI .i64 (andI .u64 x 255) ∧ cI .i64 (andI .u64 x 255) ≤ 255 := by
  have h : (BitVec.ofInt IntKind.u64.bits x &&& BitVec.ofInt IntKind.u64.bits 255).toNat ≤ 255 := by
    rw [BitVec.toNat_and]
    refine Nat.le_trans Nat.and_le_right ?_
    decide
  unfold andI
  generalize (BitVec.ofInt IntKind.u64.bits x &&& BitVec.ofInt IntKind.u64.bits 255).toNat = m at h
  have h1 : IntKind.u64.wrap (m : Int) = m := wrapU (by omega) (by omega)
  rw [h1, cI64 (by omega) (by omega)]
  omega

theorem next_eq {s : T75} {n : Int} (h : SrcOk s n) (hn : n ≤ 1048576) : ∃ v s', g50 s = some (v, s') ∧ 0 ≤ v ∧ v ≤ 255 ∧ SrcOk s' (n + 1) := by
  have h1 := h.at0
  have h2 := h.at1
  have h3 := h.len
  have e1 : aI .i64 s.at_ 1 = s.at_ + 1 := aI64 (by omega) (by omega)
  unfold g50
  rw [e1]
  have hsh : ∀ x, shrI .u64 x 40 = some (x.fdiv (2 ^ 40)) := fun x => rfl
  by_cases hlt : s.at_ < s.code_.length
  · have hl : s.at_.toNat < s.code_.length := by omega
    rw [if_pos (by simp [ltI]; omega), idx_of h1 hl, Option.bind_some, if_pos (by simp [leI]; omega)]
    have hb := h.bytes _ (List.getElem_mem hl)
    refine ⟨_, _, rfl, ?_, ?_, h.bytes, h.len, by simp only; omega, by simp only; omega⟩
    · rw [cI64 (by omega) (by omega)]; exact hb.1
    · rw [cI64 (by omega) (by omega)]; exact hb.2
  · rw [if_neg (by simp [ltI]; omega)]
    by_cases hle : s.at_ + 1 ≤ s.code_.length
    · omega
    · rw [if_neg (by simp [leI]; omega), hsh, Option.bind_some]
      exact ⟨_, _, rfl, (and255 _).1, (and255 _).2, h.bytes, h.len, by simp only; omega, by simp only; omega⟩

theorem pick_eq {s : T75} {n : Int} (h : SrcOk s n) (hn : n ≤ 1048576) {k : Int} (k1 : 1 ≤ k) (k2 : k ≤ 200) : ∃ v s', g43 s k = some (v, s') ∧ 0 ≤ v ∧ v < k ∧ SrcOk s' (n + 1) := by
  unfold g43
  by_cases hk : k ≤ 1
  · rw [if_pos (by simp [leI]; omega)]
    exact ⟨_, _, rfl, by omega, by omega, h.bytes, h.len, h.at0, by have := h.at1; omega⟩
  · obtain ⟨v, s', e, v0, v1, hs⟩ := next_eq h hn
    rw [if_neg (by simp [leI]; omega), e, Option.bind_some, if_neg (by simp [ltI]; omega)]
    have : rI .i64 v k = some (v.tmod k) := by unfold rI; rw [if_neg (by omega)]
    rw [this, Option.bind_some]
    refine ⟨_, _, rfl, ?_, ?_, hs⟩
    · exact Int.tmod_nonneg _ v0
    · exact Int.tmod_lt_of_pos _ (by omega)

theorem draw_loop {x : Int} {s : T75} {n : Int} (hx0 : 0 ≤ x) (hx : x ≤ 5) (h : SrcOk s n) (hn : n ≤ 1000) :
    ∃ c a d l m, loopO g15_L1 (x, s.code_, s.at_, s.seed_, [], []) = some (c, a, d, l, m) ∧ (l.length : Int) = x ∧ m.length = l.length ∧ (∀ y ∈ l, 0 ≤ y ∧ y ≤ 29) ∧ ∀ y ∈ m, 0 ≤ y ∧ y ≤ 6 := by
  obtain ⟨r, e, h1, h2, h3, h4⟩ := loopO_rule (body := g15_L1) (fun z => z.1.toNat)
    (fun z => 0 ≤ z.1 ∧ z.1 ≤ 5 ∧ (z.2.2.2.2.1.length : Int) = x - z.1 ∧ z.2.2.2.2.2.length = z.2.2.2.2.1.length ∧ (∀ y ∈ z.2.2.2.2.1, 0 ≤ y ∧ y ≤ 29) ∧ (∀ y ∈ z.2.2.2.2.2, 0 ≤ y ∧ y ≤ 6) ∧ SrcOk ⟨z.2.1, z.2.2.1, z.2.2.2.1⟩ (1010 - 2 * z.1))
    (fun r => (r.2.2.2.1.length : Int) = x ∧ r.2.2.2.2.length = r.2.2.2.1.length ∧ (∀ y ∈ r.2.2.2.1, 0 ≤ y ∧ y ≤ 29) ∧ ∀ y ∈ r.2.2.2.2, 0 ≤ y ∧ y ≤ 6)
    (fun z ⟨a1, a2, a3, a4, a5, a6, a7⟩ => by
      obtain ⟨k, c, a, d, l, m⟩ := z
      simp only at a1 a2 a3 a4 a5 a6 a7
      rw [g15_L1]
      by_cases hk : 0 < k
      · rw [if_pos (by simp [ltI]; omega)]
        obtain ⟨v, s', e, v0, v1, hs⟩ := pick_eq a7 (by omega) (k := 30) (by omega) (by omega)
        rw [e, Option.bind_some]
        simp only
        rw [appK_of (by simp; omega) (by simp; omega), Option.bind_some]
        obtain ⟨v', s'', e', v0', v1', hs'⟩ := pick_eq hs (by omega) (k := 7) (by omega) (by omega)
        rw [e', Option.bind_some]
        simp only
        rw [appK_of (by simp; omega) (by simp; omega), Option.bind_some, sI64 (by omega) (by omega)]
        left
        refine ⟨_, rfl, ⟨by simp only; omega, by simp only; omega, by simp; omega, by simp; omega, ?_, ?_, hs'.bytes, hs'.len, hs'.at0, by have := hs'.at1; simp only; omega⟩, by simp only; omega⟩
        · intro y hy
          rcases List.mem_append.1 hy with hy | hy
          · exact a5 y hy
          · rw [List.mem_singleton.1 hy]; omega
        · intro y hy
          rcases List.mem_append.1 hy with hy | hy
          · exact a6 y hy
          · rw [List.mem_singleton.1 hy]; omega
      · rw [if_neg (by simp [ltI]; omega)]
        right
        exact ⟨_, rfl, by simp only; omega, a4, a5, a6⟩) (s := (x, s.code_, s.at_, s.seed_, [], [])) ⟨hx0, hx, by simp, rfl, by simp, by simp, h.bytes, h.len, h.at0, by have := h.at1; simp only; omega⟩
  obtain ⟨c, a, d, l, m⟩ := r
  exact ⟨c, a, d, l, m, e, h1, h2, h3, h4⟩

/-- A season that is drawn is valid, and small. -/
theorem season_eq {code : List Int} (hb : ∀ x ∈ code, 0 ≤ x ∧ x ≤ 255) (hl : code.length ≤ 1048576) : ∃ s, g15 code = some s ∧ Valid s ∧ ∀ x ∈ s.need_, x ≤ 29 := by
  have h0 : SrcOk ⟨code, 0, 0⟩ 0 := ⟨hb, hl, by simp, by simp⟩
  unfold g15
  obtain ⟨v1, s1, e1, a1, b1, h1⟩ := pick_eq h0 (by omega) (k := 5) (by omega) (by omega)
  rw [e1, Option.bind_some]
  obtain ⟨v2, s2, e2, a2, b2, h2⟩ := pick_eq h1 (by omega) (k := 8) (by omega) (by omega)
  simp only
  rw [e2, Option.bind_some]
  obtain ⟨v3, s3, e3, a3, b3, h3⟩ := pick_eq h2 (by omega) (k := 25) (by omega) (by omega)
  simp only
  rw [e3, Option.bind_some]
  obtain ⟨v4, s4, e4, a4, b4, h4⟩ := pick_eq h3 (by omega) (k := (([0, 0, 10, 25, 50, 100] : List Nat).length : Int)) (by simp) (by simp)
  simp only
  rw [e4, Option.bind_some]
  have hv4 : v4.toNat < ([0, 0, 10, 25, 50, 100] : List Int).length := by simp at b4 ⊢; omega
  simp only
  rw [idx_of a4 hv4, Option.bind_some]
  have hloss : 0 ≤ ([0, 0, 10, 25, 50, 100] : List Int)[v4.toNat] ∧ ([0, 0, 10, 25, 50, 100] : List Int)[v4.toNat] ≤ 100 := by
    have : ∀ y ∈ ([0, 0, 10, 25, 50, 100] : List Int), 0 ≤ y ∧ y ≤ 100 := by decide
    exact this _ (List.getElem_mem hv4)
  generalize ([0, 0, 10, 25, 50, 100] : List Int)[v4.toNat] = loss at hloss
  have hst : aI .i64 v3 1 = v3 + 1 := aI64 (by omega) (by omega)
  obtain ⟨v5, s5, e5, a5, b5, h5⟩ := pick_eq h4 (by omega) (k := v3 + 1) (by omega) (by omega)
  rw [hst, e5, Option.bind_some]
  obtain ⟨v6, s6, e6, a6, b6, h6⟩ := pick_eq h5 (by omega) (k := 5) (by omega) (by omega)
  simp only
  rw [e6, Option.bind_some]
  simp only
  rw [aI64 (a := 1) (b := v6) (by omega) (by omega)]
  obtain ⟨c, a, d, l, m, e, l1, l2, l3, l4⟩ := draw_loop (x := 1 + v6) (by omega) (by omega) h6 (by omega)
  rw [e, Option.bind_some]
  unfold g15_j1
  refine ⟨_, rfl, ⟨by simp only; omega, by simp only; omega, l2, fun x hx => by have := l3 x hx; omega, fun x hx => by have := l4 x hx; omega, ?_, ?_, ?_, ?_, a3, by simp only; omega, a5, by simp only; omega, hloss.1, hloss.2⟩, fun x hx => (l3 x hx).2⟩
  · simp only; rw [aI64 (by omega) (by omega)]; omega
  · simp only; rw [aI64 (by omega) (by omega)]; omega
  · simp only; rw [aI64 (by omega) (by omega)]; omega
  · simp only; rw [aI64 (by omega) (by omega)]; omega

end Go.Proofs.Ytboeddbhfnlpaaa


namespace Go.Proofs.Ytboeddbhfnlpaaa
open Go.VL
set_option linter.unusedSimpArgs false
set_option linter.unusedVariables false

section
variable {s : T23}
/-- Of a table, the rows from i on are whole. -/
def Rows (s : T23) (T : List (List Int)) (i : Nat) : Prop := T.length = s.need_.length + 1 ∧ ∀ j (h : j < T.length), i ≤ j → T[j].length = s.store_.toNat + 1

theorem cell_rel (hv : Valid s) {k x : Nat} {T : List (List Int)} (hk : k < s.need_.length) (hx : x ≤ s.store_.toNat) (hT : Rows s T (k + 1)) :
    ∃ b, loopO (g31_L3 s (k : Int) (x : Int) T) (-1, 0) = some b ∧ loopO (g28_L3 s (k : Int) (x : Int) T) (-1, 0) = some b := by
  have m0 := hv.most0
  have m1 := hv.most1
  have n2 := hv.n2
  have s0 := hv.store0
  obtain ⟨t1, t2⟩ := hT
  have hk1 : k + 1 < T.length := by omega
  have hrow := t2 (k + 1) hk1 (Nat.le_refl _)
  have hp : k < s.price_.length := by rw [hv.pl]; exact hk
  have hk' : aI .i64 (k : Int) 1 = ((k + 1 : Nat) : Int) := succI (by omega)
  obtain ⟨r, r', h1, h2, h3⟩ := loopO_rel (b1 := g31_L3 s (k : Int) (x : Int) T) (b2 := g28_L3 s (k : Int) (x : Int) T) (fun z => s.most_.toNat + 1 - z.2.toNat)
    (fun z y => z = y ∧ ∃ i : Nat, z.2 = i ∧ i ≤ s.most_.toNat + 1) (fun r r' => r = r')
    (fun z y ⟨hzy, i, hi, hle⟩ => by
      subst hzy
      obtain ⟨best, lg⟩ := z
      simp only at hi
      subst hi
      rw [g31_L3, g28_L3, aI64 (by omega) (by omega)]
      by_cases hlt : i ≤ s.most_.toNat
      · have hi' : aI .i64 (i : Int) 1 = ((i + 1 : Nat) : Int) := succI (by omega)
        rw [if_pos (by simp [ltI]; omega), if_pos (by simp [leI]; omega), g45_eq hv hk (by omega) (by omega) (by omega) (by omega), g37_eq hv hk (by omega) (by omega) (by omega) (by omega), Option.bind_some, Option.bind_some, hi']
        left
        cases ha : aft s k x i with
        | none =>
          refine ⟨(best, ((i + 1 : Nat) : Int)), (best, ((i + 1 : Nat) : Int)), ?_, ?_, ⟨rfl, i + 1, rfl, by omega⟩, by simp only; omega⟩
          · simp
          · simp [ltI]
        | some v =>
          obtain ⟨v1, v2⟩ := aft_range hv ha
          have hvl : v.toNat < T[k + 1].length := by rw [hrow]; omega
          have hv0 : ltI v 0 = false := by simp [ltI]; omega
          simp only [Bool.not_true, Bool.false_eq_true, if_false, hk', idx_nat hk1, Option.bind_some, idx_of v1 hvl, idx_nat hp, hv0]
          cases hq : eqI T[k + 1][v.toNat] (-1)
          · simp only [Bool.false_eq_true, if_false]
            by_cases hc : (eqI best (-1) || ltI (aI .i64 (mI .i64 s.price_[k] (i : Int)) T[k + 1][v.toNat]) best) = true
            · exact ⟨(aI .i64 (mI .i64 s.price_[k] (i : Int)) T[k + 1][v.toNat], ((i + 1 : Nat) : Int)), (aI .i64 (mI .i64 s.price_[k] (i : Int)) T[k + 1][v.toNat], ((i + 1 : Nat) : Int)), by rw [if_pos hc], by rw [if_pos hc], ⟨rfl, i + 1, rfl, by omega⟩, by simp only; omega⟩
            · exact ⟨(best, ((i + 1 : Nat) : Int)), (best, ((i + 1 : Nat) : Int)), by rw [if_neg hc], by rw [if_neg hc], ⟨rfl, i + 1, rfl, by omega⟩, by simp only; omega⟩
          · exact ⟨(best, ((i + 1 : Nat) : Int)), (best, ((i + 1 : Nat) : Int)), by simp, by simp, ⟨rfl, i + 1, rfl, by omega⟩, by simp only; omega⟩
      · right
        refine ⟨best, best, ?_, ?_, rfl⟩
        · rw [if_neg (by simp [ltI]; omega)]
        · rw [if_neg (by simp [leI]; omega)]) (s := (-1, 0)) (s' := (-1, 0)) ⟨rfl, 0, rfl, by omega⟩
  subst h3
  exact ⟨r, h1, h2⟩

theorem set_fill {b : List Int} {m : Nat} {v : Int} : (b ++ List.replicate (m + 1) 0).set b.length v = (b ++ [v]) ++ List.replicate m 0 := by
  rw [List.set_append_right _ _ (Nat.le_refl _), Nat.sub_self, List.replicate_succ]
  simp

theorem row_rel (hv : Valid s) {k : Nat} {T : List (List Int)} (hk : k < s.need_.length) (hT : Rows s T (k + 1)) :
    ∃ row, row.length = s.store_.toNat + 1 ∧ loopO (g31_L2 s (k : Int) T) (0, List.replicate (aI .i64 s.store_ 1).toNat 0) = some (T.set k row) ∧ loopO (g28_L2 s (k : Int) T) (0, []) = some row := by
  have s0 := hv.store0
  have s1 := hv.store1
  have hst : aI .i64 s.store_ 1 = ((s.store_.toNat + 1 : Nat) : Int) := by rw [aI64 (by omega) (by omega)]; omega
  have hlen : (List.replicate (aI .i64 s.store_ 1).toNat (0 : Int)).length = s.store_.toNat + 1 := by rw [hst, List.length_replicate, Int.toNat_natCast]
  obtain ⟨r, r', h1, h2, h3, h4⟩ := loopO_rel (b1 := g31_L2 s (k : Int) T) (b2 := g28_L2 s (k : Int) T) (fun z => s.store_.toNat + 1 - z.1.toNat)
    (fun z y => ∃ q : Nat, z.1 = q ∧ y.1 = q ∧ q ≤ s.store_.toNat + 1 ∧ y.2.length = q ∧ z.2 = y.2 ++ List.replicate (s.store_.toNat + 1 - q) 0) (fun r r' => r = T.set k r' ∧ r'.length = s.store_.toNat + 1)
    (fun z y ⟨q, h1, h2, h3, h4, h5⟩ => by
      obtain ⟨x, a⟩ := z
      obtain ⟨x', b⟩ := y
      simp only at h1 h2 h4 h5
      subst h1 h2 h5
      rw [g31_L2, g28_L2, List.length_replicate, hst, Int.toNat_natCast]
      by_cases hlt : q ≤ s.store_.toNat
      · obtain ⟨best, e1, e2⟩ := cell_rel hv hk hlt hT
        rw [if_pos (by simp [ltI]; omega), if_pos (by simp [leI]; omega), e1, e2, Option.bind_some, Option.bind_some]
        left
        refine ⟨(((q + 1 : Nat) : Int), (b ++ [best]) ++ List.replicate (s.store_.toNat + 1 - (q + 1)) 0), (((q + 1 : Nat) : Int), b ++ [best]), ?_, ?_, ⟨q + 1, rfl, rfl, by omega, by simp [h4], rfl⟩, by simp only; omega⟩
        · unfold g31_j4 g31_j3
          rw [idx_nat (by simp; omega), Option.bind_some, succI (by omega), Int.toNat_natCast, show s.store_.toNat + 1 - q = (s.store_.toNat + 1 - (q + 1)) + 1 by omega]
          conv => lhs; rw [← h4, set_fill]
          rw [h4]
        · unfold g28_j5 g28_j4
          rw [appK_of (by simp; omega) (by simp; omega), Option.bind_some, succI (by omega)]
      · have hq : q = s.store_.toNat + 1 := by omega
        right
        refine ⟨T.set k b, b, ?_, ?_, rfl, by omega⟩
        · rw [if_neg (by simp [ltI]; omega), hq]; simp
        · rw [if_neg (by simp [leI]; omega)]) (s := (0, List.replicate (aI .i64 s.store_ 1).toNat 0)) (s' := (0, [])) ⟨0, rfl, rfl, by omega, rfl, by rw [hst, Int.toNat_natCast]; simp⟩
  subst h3
  exact ⟨r', h4, h1, h2⟩

theorem values_eq (hv : Valid s) : ∃ T, g31 s = some T ∧ g28 s = some T ∧ Rows s T 0 := by
  have s0 := hv.store0
  have s1 := hv.store1
  have n2 := hv.n2
  have hst : aI .i64 s.store_ 1 = ((s.store_.toNat + 1 : Nat) : Int) := by rw [aI64 (by omega) (by omega)]; omega
  have hn : aI .i64 (s.need_.length : Int) 1 = ((s.need_.length + 1 : Nat) : Int) := succI (by omega)
  have hmk : mk 8 (aI .i64 s.store_ 1) = some () := by rw [hst]; exact mk_of (by omega) (by simp; omega) (by simp; omega)
  have hmk2 : mk 24 (aI .i64 (s.need_.length : Int) 1) = some () := by rw [hn]; exact mk_of (by omega) (by simp; omega) (by simp; omega)
  generalize hT0 : (List.replicate (aI .i64 (s.need_.length : Int) 1).toNat ([] : List Int)) = T0
  have hl0 : T0.length = s.need_.length + 1 := by rw [← hT0, hn]; simp
  obtain ⟨r, r', h1, h2, h3, h4⟩ := loopO_rel (b1 := g31_L1 s) (b2 := g28_L1 s) (fun z => (z.1 + 1).toNat)
    (fun z y => z = y ∧ ∃ q : Nat, z.1 = (q : Int) - 1 ∧ q ≤ s.need_.length ∧ Rows s z.2 q) (fun r r' => r = r' ∧ Rows s r 0)
    (fun z y ⟨hzy, q, h1, h2, h3⟩ => by
      subst hzy
      obtain ⟨k, T⟩ := z
      simp only at h1 h3
      subst h1
      rw [g31_L1, g28_L1]
      cases q with
      | zero =>
        right
        refine ⟨T, T, ?_, ?_, rfl, h3⟩
        · rw [if_neg (by simp [leI])]
        · rw [if_neg (by simp [leI])]
      | succ q =>
        have e : ((q + 1 : Nat) : Int) - 1 = (q : Int) := by omega
        rw [e]
        obtain ⟨row, r1, r2, r3⟩ := row_rel hv (k := q) (by omega) h3
        have hqT : q < T.length := by rw [h3.1]; omega
        left
        refine ⟨((q : Int) - 1, T.set q row), ((q : Int) - 1, T.set q row), ?_, ?_, ⟨rfl, q, rfl, by omega, by simpa using h3.1, fun j hj hle => ?_⟩, by simp only; omega⟩
        · rw [if_pos (by simp [leI]), hmk, Option.bind_some, idx_nat hqT, Option.bind_some, r2, Option.bind_some]
          unfold g31_j2
          rw [sI64 (by omega) (by omega)]
        · rw [if_pos (by simp [leI]), r3, Option.bind_some]
          unfold g28_j3 g28_j2
          rw [idx_nat hqT, Option.bind_some, sI64 (by omega) (by omega), Int.toNat_natCast]
        · simp only
          rw [List.getElem_set]
          split
          · exact r1
          · exact h3.2 j (by simpa using hj) (by omega)) (s := (sI .i64 (s.need_.length : Int) 1, T0.set ((s.need_.length : Int).toNat) (List.replicate (aI .i64 s.store_ 1).toNat 0))) (s' := (sI .i64 (s.need_.length : Int) 1, T0.set ((s.need_.length : Int).toNat) (List.replicate (aI .i64 s.store_ 1).toNat 0)))
    ⟨rfl, s.need_.length, sI64 (by omega) (by omega), Nat.le_refl _, by simpa using hl0, fun j hj hle => by
      have : j = s.need_.length := by simp at hj; omega
      subst this
      simp only [Int.toNat_natCast]
      rw [List.getElem_set_self, hst, Int.toNat_natCast, List.length_replicate]⟩
  subst h3
  refine ⟨r, ?_, ?_, h4⟩
  · unfold g31 g31_j1
    rw [hmk2, Option.bind_some, hmk, Option.bind_some, hT0, idx_nat (by omega), Option.bind_some, h1]
    rfl
  · unfold g28 g28_j1
    rw [hmk2, Option.bind_some, hmk, Option.bind_some, hT0, idx_nat (by omega), Option.bind_some, h2]
    rfl

/-- The least cost from the first store on. -/
theorem first_of (hv : Valid s) {T : List (List Int)} (hT : Rows s T 0) : ∃ (h0 : 0 < T.length) (h1 : s.first_.toNat < T[0].length), idx T 0 = some T[0] ∧ idx T[0] s.first_ = some T[0][s.first_.toNat] := by
  have h0 : 0 < T.length := by rw [hT.1]; omega
  have h1 : s.first_.toNat < T[0].length := by rw [hT.2 0 h0 (Nat.le_refl _)]; have := hv.first1; have := hv.first0; omega
  exact ⟨h0, h1, idx_nat h0, idx_of hv.first0 h1⟩

end
end Go.Proofs.Ytboeddbhfnlpaaa

namespace Go.Proofs.Ytboeddbhfnlpaaa
open Go.VL
set_option linter.unusedSimpArgs false
set_option linter.unusedVariables false

section
variable {s : T23}
def cellAt (T : List (List Int)) (k : Nat) (v : Int) : Int := (T.getD k []).getD v.toNat 0

theorem cellAt_eq {T : List (List Int)} {k : Nat} {v : Int} (hk : k < T.length) (hv : v.toNat < T[k].length) : T[k][v.toNat] = cellAt T k v := by
  simp [cellAt, List.getD, hk, hv]

structure CellOk (s : T23) (T : List (List Int)) (k : Nat) (i j c : Int) : Prop where
  best : c = -1 ∨ (0 ≤ c ∧ ∃ x v, 0 ≤ x ∧ x < j ∧ aft s k i x = some v ∧ cellAt T (k + 1) v ≠ -1 ∧ c = pr s k * x + cellAt T (k + 1) v)
  low : ∀ x v, 0 ≤ x → x < j → aft s k i x = some v → cellAt T (k + 1) v ≠ -1 → c ≠ -1 ∧ c ≤ pr s k * x + cellAt T (k + 1) v

theorem cell_ok (hv : Valid s) {k : Nat} {i B : Int} {T : List (List Int)} (hk : k < s.need_.length) (i0 : 0 ≤ i) (i1 : i ≤ s.store_) (hT : Rows s T (k + 1)) (hB : B ≤ 1000000)
    (hb : ∀ v, 0 ≤ v → v ≤ s.store_ → -1 ≤ cellAt T (k + 1) v ∧ cellAt T (k + 1) v ≤ B) (hB0 : 0 ≤ B) :
    ∃ c, loopO (g28_L3 s (k : Int) i T) (-1, 0) = some c ∧ CellOk s T k i (s.most_ + 1) c ∧ -1 ≤ c ∧ c ≤ B + 20000 := by
  have m0 := hv.most0
  have m1 := hv.most1
  have n2 := hv.n2
  have s0 := hv.store0
  obtain ⟨t1, t2⟩ := hT
  have hk1 : k + 1 < T.length := by omega
  have hrow := t2 (k + 1) hk1 (Nat.le_refl _)
  have hp : k < s.price_.length := by rw [hv.pl]; exact hk
  have hk' : aI .i64 (k : Int) 1 = ((k + 1 : Nat) : Int) := succI (by omega)
  obtain ⟨pr0, pr1⟩ := pr_bnd hv hk
  obtain ⟨r, h1, h2⟩ := loopO_rule (body := g28_L3 s (k : Int) i T) (fun z => s.most_.toNat + 1 - z.2.toNat)
    (fun z => ∃ q : Nat, z.2 = q ∧ (q : Int) ≤ s.most_ + 1 ∧ CellOk s T k i q z.1 ∧ -1 ≤ z.1 ∧ z.1 ≤ B + 20000) (fun c => CellOk s T k i (s.most_ + 1) c ∧ -1 ≤ c ∧ c ≤ B + 20000)
    (fun z ⟨q, e, hle, hc, hc0, hc1⟩ => by
      obtain ⟨best, lg⟩ := z
      simp only at e hc hc0 hc1
      subst e
      rw [g28_L3]
      by_cases hlt : (q : Int) ≤ s.most_
      · have hi' : aI .i64 (q : Int) 1 = ((q + 1 : Nat) : Int) := succI (by omega)
        rw [if_pos (by simp [leI]; omega), g45_eq hv hk i0 i1 (by omega) hlt, Option.bind_some, hi']
        left
        have hq1 : ((q + 1 : Nat) : Int) = (q : Int) + 1 := by omega
        cases ha : aft s k i q with
        | none =>
          refine ⟨(best, ((q + 1 : Nat) : Int)), by simp [ltI], ⟨q + 1, rfl, by omega, ⟨?_, ?_⟩, hc0, hc1⟩, by simp only; omega⟩
          · rcases hc.best with h | ⟨h0, x, v, hx0, hx1, h3⟩
            · exact .inl h
            · exact .inr ⟨h0, x, v, hx0, by omega, h3⟩
          · intro x v hx0 hx1 hxa
            by_cases hxq : x = q
            · rw [hxq, ha] at hxa; cases hxa
            · exact hc.low x v hx0 (by omega) hxa
        | some v =>
          obtain ⟨v1, v2⟩ := aft_range hv ha
          have hvl : v.toNat < T[k + 1].length := by rw [hrow]; omega
          have hv0 : ltI v 0 = false := by simp [ltI]; omega
          obtain ⟨b0, b1⟩ := hb v v1 v2
          have hpr : s.price_[k] = pr s k := pr_get hp
          have mb : 0 ≤ pr s k * (q : Int) ∧ pr s k * (q : Int) ≤ 1000 * 20 := mul_bnd pr0 pr1 (by omega) (by omega)
          simp only [hv0, Bool.false_eq_true, if_false, hk', idx_nat hk1, Option.bind_some, idx_of v1 hvl, idx_nat hp, cellAt_eq hk1 hvl, hpr]
          rw [mI64 (by omega) (by omega), aI64 (by omega) (by omega)]
          have skip : cellAt T (k + 1) v = -1 → CellOk s T k i ((q : Int) + 1) best := fun hm => by
            refine ⟨?_, ?_⟩
            · rcases hc.best with h | ⟨h0, x, v, hx0, hx1, h3⟩
              · exact .inl h
              · exact .inr ⟨h0, x, v, hx0, by omega, h3⟩
            · intro x v' hx0 hx1 hxa hne
              by_cases hxq : x = q
              · rw [hxq, ha] at hxa; cases hxa; exact absurd hm hne
              · exact hc.low x v' hx0 (by omega) hxa hne
          by_cases hm : cellAt T (k + 1) v = -1
          · rw [if_pos (by simp [eqI, hm])]
            exact ⟨_, rfl, ⟨q + 1, rfl, by omega, by rw [hq1]; exact skip hm, hc0, hc1⟩, by simp only; omega⟩
          · rw [if_neg (by simp [eqI, hm])]
            have hm0 : 0 ≤ cellAt T (k + 1) v := by omega
            by_cases hcmp : (eqI best (-1) || ltI (pr s k * (q : Int) + cellAt T (k + 1) v) best) = true
            · rw [if_pos hcmp]
              refine ⟨_, rfl, ⟨q + 1, rfl, by omega, ⟨.inr ⟨by simp only; omega, q, v, by omega, by omega, ha, hm, rfl⟩, ?_⟩, by simp only; omega, by simp only; omega⟩, by simp only; omega⟩
              intro x v' hx0 hx1 hxa hne
              by_cases hxq : x = q
              · rw [hxq, ha] at hxa
                cases hxa
                rw [hxq]
                exact ⟨by simp only; omega, Int.le_refl _⟩
              · obtain ⟨l1, l2⟩ := hc.low x v' hx0 (by omega) hxa hne
                have hbm : eqI best (-1) = false := by simp [eqI]; exact l1
                rw [hbm] at hcmp
                simp [ltI] at hcmp
                exact ⟨by simp only; omega, by simp only; omega⟩
            · rw [if_neg hcmp]
              have hcmp' : best ≠ -1 ∧ best ≤ pr s k * (q : Int) + cellAt T (k + 1) v := by
                simp only [Bool.not_eq_true, Bool.or_eq_false_iff] at hcmp
                obtain ⟨c1, c2⟩ := hcmp
                simp [eqI] at c1
                simp [ltI] at c2
                exact ⟨c1, c2⟩
              refine ⟨_, rfl, ⟨q + 1, rfl, by omega, ⟨?_, ?_⟩, hc0, hc1⟩, by simp only; omega⟩
              · rcases hc.best with h | ⟨h0, x, v, hx0, hx1, h3⟩
                · exact .inl h
                · exact .inr ⟨h0, x, v, hx0, by omega, h3⟩
              · intro x v' hx0 hx1 hxa hne
                by_cases hxq : x = q
                · rw [hxq, ha] at hxa
                  cases hxa
                  rw [hxq]
                  exact hcmp'
                · exact hc.low x v' hx0 (by omega) hxa hne
      · right
        have : (q : Int) = s.most_ + 1 := by omega
        rw [if_neg (by simp [leI]; omega)]
        exact ⟨best, rfl, by rw [← this]; exact hc, hc0, hc1⟩) (s := (-1, 0)) ⟨0, rfl, by omega, ⟨.inl rfl, fun x v h0 h1 => by omega⟩, by simp, by simp only; omega⟩
  exact ⟨r, h1, h2⟩

theorem row_ok (hv : Valid s) {k : Nat} {B : Int} {T : List (List Int)} (hk : k < s.need_.length) (hT : Rows s T (k + 1)) (hB : B ≤ 1000000)
    (hb : ∀ v, 0 ≤ v → v ≤ s.store_ → -1 ≤ cellAt T (k + 1) v ∧ cellAt T (k + 1) v ≤ B) (hB0 : 0 ≤ B) :
    ∃ row, loopO (g28_L2 s (k : Int) T) (0, []) = some row ∧ row.length = s.store_.toNat + 1 ∧ ∀ q : Nat, (q : Int) ≤ s.store_ → CellOk s T k q (s.most_ + 1) (row.getD q 0) ∧ -1 ≤ row.getD q 0 ∧ row.getD q 0 ≤ B + 20000 := by
  have s0 := hv.store0
  have s1 := hv.store1
  obtain ⟨r, h1, h2⟩ := loopO_rule (body := g28_L2 s (k : Int) T) (fun z => s.store_.toNat + 1 - z.1.toNat)
    (fun z => ∃ q : Nat, z.1 = q ∧ (q : Int) ≤ s.store_ + 1 ∧ z.2.length = q ∧ ∀ x : Nat, x < q → CellOk s T k x (s.most_ + 1) (z.2.getD x 0) ∧ -1 ≤ z.2.getD x 0 ∧ z.2.getD x 0 ≤ B + 20000)
    (fun row => row.length = s.store_.toNat + 1 ∧ ∀ q : Nat, (q : Int) ≤ s.store_ → CellOk s T k q (s.most_ + 1) (row.getD q 0) ∧ -1 ≤ row.getD q 0 ∧ row.getD q 0 ≤ B + 20000)
    (fun z ⟨q, e, hle, hl, hc⟩ => by
      obtain ⟨i, row⟩ := z
      simp only at e hl hc
      subst e
      rw [g28_L2]
      by_cases hlt : (q : Int) ≤ s.store_
      · obtain ⟨c, e1, c1, c2, c3⟩ := cell_ok hv hk (i := (q : Int)) (by omega) hlt hT hB hb hB0
        rw [if_pos (by simp [leI]; omega), e1, Option.bind_some]
        unfold g28_j5 g28_j4
        rw [appK_of (by simp; omega) (by simp; omega), Option.bind_some, succI (by omega)]
        left
        refine ⟨_, rfl, ⟨q + 1, rfl, by omega, by simp [hl], fun x hx => ?_⟩, by simp only; omega⟩
        by_cases hxq : x = q
        · subst hxq
          have : (row ++ [c]).getD x 0 = c := by simp [List.getD, ← hl]
          simp only [this]
          exact ⟨c1, c2, c3⟩
        · have : (row ++ [c]).getD x 0 = row.getD x 0 := by
            simp only [List.getD]
            rw [List.getElem?_append_left (by omega)]
          simp only [this]
          exact hc x (by omega)
      · right
        rw [if_neg (by simp [leI]; omega)]
        exact ⟨row, rfl, by omega, fun x hx => hc x (by omega)⟩) (s := (0, [])) ⟨0, rfl, by omega, rfl, fun x hx => by omega⟩
  exact ⟨r, h1, h2⟩

/-- From slot k on the table holds the least costs. -/
structure TabOk (s : T23) (T : List (List Int)) (k : Nat) : Prop where
  rows : Rows s T k
  bnd : ∀ j : Nat, k ≤ j → j ≤ s.need_.length → ∀ v, 0 ≤ v → v ≤ s.store_ → -1 ≤ cellAt T j v ∧ cellAt T j v ≤ 20000 * ((s.need_.length : Int) - j)
  last : ∀ v, 0 ≤ v → v ≤ s.store_ → cellAt T s.need_.length v = 0
  cell : ∀ j : Nat, k ≤ j → j < s.need_.length → ∀ v, 0 ≤ v → v ≤ s.store_ → CellOk s T j v (s.most_ + 1) (cellAt T j v)

theorem cellAt_set {T : List (List Int)} {k j : Nat} {row : List Int} (h : k ≠ j) (v : Int) : cellAt (T.set k row) j v = cellAt T j v := by
  simp [cellAt, List.getD, List.getElem?_set, h]
theorem cellAt_same {T : List (List Int)} {k : Nat} {row : List Int} (h : k < T.length) (v : Int) : cellAt (T.set k row) k v = row.getD v.toNat 0 := by
  simp [cellAt, List.getD, List.getElem?_set, h]

theorem tab_ok (hv : Valid s) : ∃ T, g31 s = some T ∧ TabOk s T 0 := by
  obtain ⟨T0, e48, e54, hR0⟩ := values_eq hv
  suffices h : ∃ T, g28 s = some T ∧ TabOk s T 0 by
    obtain ⟨T, h1, h2⟩ := h
    rw [e54] at h1
    cases h1
    exact ⟨T0, e48, h2⟩
  have s0 := hv.store0
  have s1 := hv.store1
  have n2 := hv.n2
  have hst : aI .i64 s.store_ 1 = ((s.store_.toNat + 1 : Nat) : Int) := by rw [aI64 (by omega) (by omega)]; omega
  have hn : aI .i64 (s.need_.length : Int) 1 = ((s.need_.length + 1 : Nat) : Int) := succI (by omega)
  have hmk : mk 8 (aI .i64 s.store_ 1) = some () := by rw [hst]; exact mk_of (by omega) (by simp; omega) (by simp; omega)
  have hmk2 : mk 24 (aI .i64 (s.need_.length : Int) 1) = some () := by rw [hn]; exact mk_of (by omega) (by simp; omega) (by simp; omega)
  generalize hT0 : (List.replicate (aI .i64 (s.need_.length : Int) 1).toNat ([] : List Int)) = T0
  have hl0 : T0.length = s.need_.length + 1 := by rw [← hT0, hn]; simp
  obtain ⟨r, h1, h2⟩ := loopO_rule (body := g28_L1 s) (fun z => (z.1 + 1).toNat)
    (fun z => ∃ q : Nat, z.1 = (q : Int) - 1 ∧ q ≤ s.need_.length ∧ TabOk s z.2 q) (fun r => TabOk s r 0)
    (fun z ⟨q, h1, h2, h3⟩ => by
      obtain ⟨k, T⟩ := z
      simp only at h1 h3
      subst h1
      rw [g28_L1]
      cases q with
      | zero =>
        right
        exact ⟨T, by rw [if_neg (by simp [leI])], h3⟩
      | succ q =>
        have e : ((q + 1 : Nat) : Int) - 1 = (q : Int) := by omega
        rw [e]
        have hqT : q < T.length := by rw [h3.rows.1]; omega
        obtain ⟨row, r1, r2, r3⟩ := row_ok hv (k := q) (B := 20000 * ((s.need_.length : Int) - ((q + 1 : Nat) : Int))) (by omega) h3.rows (by omega) (h3.bnd (q + 1) (Nat.le_refl _) (by omega)) (by omega)
        left
        refine ⟨((q : Int) - 1, T.set q row), ?_, ⟨q, rfl, by omega, ⟨⟨by simpa using h3.rows.1, fun j hj hle => ?_⟩, ?_, ?_, ?_⟩⟩, by simp only; omega⟩
        · rw [if_pos (by simp [leI]), r1, Option.bind_some]
          unfold g28_j3 g28_j2
          rw [idx_nat hqT, Option.bind_some, sI64 (by omega) (by omega), Int.toNat_natCast]
        · simp only
          rw [List.getElem_set]
          split
          · exact r2
          · exact h3.rows.2 j (by simpa using hj) (by omega)
        · intro j hj1 hj2 v v0 v1
          by_cases hjq : q = j
          · subst hjq
            have := r3 v.toNat (by omega)
            simp only [cellAt_same hqT]
            omega
          · simp only [cellAt_set hjq]
            exact h3.bnd j (by omega) hj2 v v0 v1
        · intro v v0 v1
          simp only [cellAt_set (show q ≠ s.need_.length by omega)]
          exact h3.last v v0 v1
        · intro j hj1 hj2 v v0 v1
          by_cases hjq : q = j
          · subst hjq
            have := (r3 v.toNat (by omega)).1
            rw [Int.toNat_of_nonneg v0] at this
            simp only [cellAt_same hqT]
            refine ⟨?_, ?_⟩
            · simp only [cellAt_set (show q ≠ q + 1 by omega)]
              exact this.best
            · simp only [cellAt_set (show q ≠ q + 1 by omega)]
              exact this.low
          · have := h3.cell j (by omega) hj2 v v0 v1
            refine ⟨?_, ?_⟩
            · simp only [cellAt_set hjq, cellAt_set (show q ≠ j + 1 by omega)]
              exact this.best
            · simp only [cellAt_set hjq, cellAt_set (show q ≠ j + 1 by omega)]
              exact this.low)
    (s := (sI .i64 (s.need_.length : Int) 1, T0.set ((s.need_.length : Int).toNat) (List.replicate (aI .i64 s.store_ 1).toNat 0))) ⟨s.need_.length, sI64 (by omega) (by omega), Nat.le_refl _, by
      have hz : ∀ v, 0 ≤ v → v ≤ s.store_ → cellAt (T0.set ((s.need_.length : Int).toNat) (List.replicate (aI .i64 s.store_ 1).toNat 0)) s.need_.length v = 0 := fun v v0 v1 => by
        rw [Int.toNat_natCast, cellAt_same (by omega)]
        simp only [List.getD, List.getElem?_replicate]
        split <;> rfl
      refine ⟨⟨by simpa using hl0, fun j hj hle => ?_⟩, fun j h1 h2 v v0 v1 => ?_, hz, fun j h1 h2 => by omega⟩
      · have : j = s.need_.length := by simp at hj; omega
        subst this
        simp only [Int.toNat_natCast]
        rw [List.getElem_set_self, hst, Int.toNat_natCast, List.length_replicate]
      · have : j = s.need_.length := by omega
        subst this
        simp only at *
        rw [hz v v0 v1]
        omega⟩
  refine ⟨r, ?_, h2⟩
  unfold g28 g28_j1
  rw [hmk2, Option.bind_some, hmk, Option.bind_some, hT0, idx_nat (by omega), Option.bind_some, h1]
  rfl
end
end Go.Proofs.Ytboeddbhfnlpaaa

