/- Plain laws of drawn seasons and plans: texts, greedy plans, repaired plans, stores and costs. -/
import Derived.Test.YtilkneilafpjiaaDoorK9a
import Derived.Test.YtilkneilafpjiaaDoorVxPure
import Derived.Test.YtilkneilafpjiaaDoorVxCut
namespace Go.Proofs.YtilkneilafpjiaaDoor
open Go.VL
set_option linter.unusedSimpArgs false
set_option linter.unusedVariables false
set_option maxHeartbeats 4000000

def Small (s : T29) : Prop := s.need_.length ≤ 1048576 ∧ s.price_.length ≤ 1048576

theorem g90_eq {xs : List Int} {m : Int} (h : xs.length ≤ 1048576) : ∃ b, g90 xs m = some b ∧ (b = true ↔ ∀ x ∈ xs, 0 ≤ x ∧ x ≤ m) := by
  have hL := loop_scan (body := g90_L1 xs m) (n := xs.length) (fun i => if h : i < xs.length then (if 0 ≤ xs[i] ∧ xs[i] ≤ m then none else some (.inr false)) else none) (.inl ()) (fun i hi => by
    rw [g90_L1]
    simp only [ltI, show ((i : Int) < xs.length) = True by simp; omega, decide_true, if_true, idx_nat hi, Option.bind_some, succI (i := i) (by omega), g92, leI, dif_pos hi]
    by_cases hx : 0 ≤ xs[i] ∧ xs[i] ≤ m
    · rw [if_pos hx]; simp [hx.1, hx.2]
    · rw [if_neg hx]
      have : (decide (0 ≤ xs[i]) && decide (xs[i] ≤ m)) = false := by rw [Bool.eq_false_iff]; simpa using hx
      rw [this]
      simp) (by rw [g90_L1]; simp [ltI])
  unfold g90 g90_j1
  rw [hL]
  cases hf : (List.range xs.length).findSome? (fun i => if h : i < xs.length then (if 0 ≤ xs[i] ∧ xs[i] ≤ m then none else some (.inr false : Unit ⊕ Bool)) else none) with
  | none =>
    refine ⟨true, rfl, ⟨fun _ x hx => ?_, fun _ => rfl⟩⟩
    obtain ⟨i, hi, rfl⟩ := List.mem_iff_getElem.1 hx
    have := range_none.1 hf i hi
    rw [dif_pos hi] at this
    split at this
    · assumption
    · cases this
  | some r =>
    obtain ⟨i, hi, h1, _⟩ := range_some hf
    rw [dif_pos hi] at h1
    split at h1
    · cases h1
    · rename_i hn
      cases h1
      exact ⟨false, rfl, ⟨nofun, fun h => absurd (h _ (List.getElem_mem hi)) hn⟩⟩

structure Valid (s : T29) : Prop where
  n1 : 1 ≤ s.need_.length
  n2 : s.need_.length ≤ 24
  pl : s.price_.length = s.need_.length
  need : ∀ x ∈ s.need_, 0 ≤ x ∧ x ≤ 200
  price : ∀ x ∈ s.price_, 0 ≤ x ∧ x ≤ 1000
  most0 : 0 ≤ s.most_
  most1 : s.most_ ≤ 20
  yield0 : 1 ≤ s.yield_
  yield1 : s.yield_ ≤ 40
  store0 : 0 ≤ s.store_
  store1 : s.store_ ≤ 60
  first0 : 0 ≤ s.first_
  first1 : s.first_ ≤ s.store_
  loss0 : 0 ≤ s.loss_
  loss1 : s.loss_ ≤ 100

theorem g55_eq {s : T29} (h : Small s) : ∃ b, g55 s = some b ∧ (b = true ↔ Valid s) := by
  obtain ⟨b1, e1, i1⟩ := g90_eq (m := 200) h.1
  obtain ⟨b2, e2, i2⟩ := g90_eq (m := 1000) h.2
  unfold g55
  simp only [g92, leI, eqI, Option.bind_some, e1, e2]
  by_cases hA : 1 ≤ s.need_.length ∧ s.need_.length ≤ 24 ∧ s.price_.length = s.need_.length
  · have c1 : (decide ((1 : Int) ≤ s.need_.length) && decide ((s.need_.length : Int) ≤ 24) && ((s.price_.length : Int) == (s.need_.length : Int))) = true := by simp; omega
    rw [c1]
    cases b1
    · exact ⟨false, by simp, ⟨nofun, fun h => absurd (i1.2 h.need) (by simp)⟩⟩
    · cases b2
      · exact ⟨false, by simp, ⟨nofun, fun h => absurd (i2.2 h.price) (by simp)⟩⟩
      · simp only [if_true, Option.bind_some]
        by_cases q1 : 0 ≤ s.most_ ∧ s.most_ ≤ 20
        · by_cases q2 : 1 ≤ s.yield_ ∧ s.yield_ ≤ 40
          · by_cases q3 : 0 ≤ s.store_ ∧ s.store_ ≤ 60
            · by_cases q4 : 0 ≤ s.first_ ∧ s.first_ ≤ s.store_
              · refine ⟨_, by simp [q1.1, q1.2, q2.1, q2.2, q3.1, q3.2, q4.1, q4.2]; rfl, ⟨fun h => ?_, fun h => ?_⟩⟩
                · simp only [Bool.and_eq_true, decide_eq_true_eq] at h
                  exact ⟨hA.1, hA.2.1, hA.2.2, i1.1 rfl, i2.1 rfl, q1.1, q1.2, q2.1, q2.2, q3.1, q3.2, q4.1, q4.2, h.1, h.2⟩
                · simp [h.loss0, h.loss1]
              · have : (decide (0 ≤ s.first_) && decide (s.first_ ≤ s.store_)) = false := by rw [Bool.eq_false_iff]; simpa using q4
                exact ⟨false, by simp [q1.1, q1.2, q2.1, q2.2, q3.1, q3.2, this], ⟨nofun, fun h => absurd ⟨h.first0, h.first1⟩ q4⟩⟩
            · have : (decide (0 ≤ s.store_) && decide (s.store_ ≤ 60)) = false := by rw [Bool.eq_false_iff]; simpa using q3
              exact ⟨false, by simp [q1.1, q1.2, q2.1, q2.2, this], ⟨nofun, fun h => absurd ⟨h.store0, h.store1⟩ q3⟩⟩
          · have : (decide (1 ≤ s.yield_) && decide (s.yield_ ≤ 40)) = false := by rw [Bool.eq_false_iff]; simpa using q2
            exact ⟨false, by simp [q1.1, q1.2, this], ⟨nofun, fun h => absurd ⟨h.yield0, h.yield1⟩ q2⟩⟩
        · have : (decide (0 ≤ s.most_) && decide (s.most_ ≤ 20)) = false := by rw [Bool.eq_false_iff]; simpa using q1
          exact ⟨false, by simp [this], ⟨nofun, fun h => absurd ⟨h.most0, h.most1⟩ q1⟩⟩
  · have c1 : (decide ((1 : Int) ≤ s.need_.length) && decide ((s.need_.length : Int) ≤ 24) && ((s.price_.length : Int) == (s.need_.length : Int))) = false := by rw [Bool.eq_false_iff]; simp; omega
    rw [c1]
    exact ⟨false, by simp, ⟨nofun, fun h => absurd ⟨h.n1, h.n2, h.pl⟩ hA⟩⟩

theorem g39_eq {s : T29} (h : Small s) : ∃ b, g39 s = some b ∧ (b = true ↔ Valid s) := by
  unfold g39
  by_cases hA : 1 ≤ s.need_.length ∧ s.need_.length ≤ 24 ∧ s.price_.length = s.need_.length
  rotate_left
  · rw [if_pos (by simp [ltI, eqI]; omega)]
    exact ⟨false, rfl, ⟨nofun, fun h => absurd ⟨h.n1, h.n2, h.pl⟩ hA⟩⟩
  rw [if_neg (by simp [ltI, eqI]; omega)]
  have hL := loop_scan (body := g39_L1 s) (n := s.need_.length) (fun i => if h : i < s.need_.length ∧ i < s.price_.length then (if (0 ≤ s.need_[i] ∧ s.need_[i] ≤ 200) ∧ (0 ≤ s.price_[i] ∧ s.price_[i] ≤ 1000) then none else some (.inr false)) else none) (.inl ()) (fun i hi => by
    have hp : i < s.price_.length := by omega
    rw [g39_L1]
    simp only [ltI, show ((i : Int) < s.need_.length) = True by simp; omega, decide_true, if_true, idx_nat hi, idx_nat hp, Option.bind_some, succI (i := i) (by omega), dif_pos (And.intro hi hp)]
    by_cases x1 : s.need_[i] < 0 ∨ 200 < s.need_[i]
    · have hn : ¬ ((0 ≤ s.need_[i] ∧ s.need_[i] ≤ 200) ∧ (0 ≤ s.price_[i] ∧ s.price_[i] ≤ 1000)) := by omega
      rw [if_neg hn]
      have : (decide (s.need_[i] < 0) || decide (200 < s.need_[i])) = true := by simpa using x1
      simp [this]
    · have : (decide (s.need_[i] < 0) || decide (200 < s.need_[i])) = false := by rw [Bool.eq_false_iff]; simpa using x1
      rw [this]
      by_cases x2 : s.price_[i] < 0
      · have hn : ¬ ((0 ≤ s.need_[i] ∧ s.need_[i] ≤ 200) ∧ (0 ≤ s.price_[i] ∧ s.price_[i] ≤ 1000)) := by omega
        rw [if_neg hn]; simp [x2]
      · by_cases x3 : 1000 < s.price_[i]
        · have hn : ¬ ((0 ≤ s.need_[i] ∧ s.need_[i] ≤ 200) ∧ (0 ≤ s.price_[i] ∧ s.price_[i] ≤ 1000)) := by omega
          rw [if_neg hn]; simp [x2, x3]
        · have hn : ((0 ≤ s.need_[i] ∧ s.need_[i] ≤ 200) ∧ (0 ≤ s.price_[i] ∧ s.price_[i] ≤ 1000)) := by omega
          rw [if_pos hn]; simp [x2, x3]) (by rw [g39_L1]; simp [ltI])
  rw [hL]
  cases hf : (List.range s.need_.length).findSome? (fun i => if h : i < s.need_.length ∧ i < s.price_.length then (if (0 ≤ s.need_[i] ∧ s.need_[i] ≤ 200) ∧ (0 ≤ s.price_[i] ∧ s.price_[i] ≤ 1000) then none else some (.inr false : Unit ⊕ Bool)) else none) with
  | none =>
    have hall : ∀ i (h1 : i < s.need_.length) (h2 : i < s.price_.length), (0 ≤ s.need_[i] ∧ s.need_[i] ≤ 200) ∧ (0 ≤ s.price_[i] ∧ s.price_[i] ≤ 1000) := fun i h1 h2 => by
      have := range_none.1 hf i h1
      rw [dif_pos ⟨h1, h2⟩] at this
      split at this
      · assumption
      · cases this
    refine ⟨_, rfl, ⟨fun h => ?_, fun h => ?_⟩⟩
    · simp only [leI, Bool.and_eq_true, decide_eq_true_eq] at h
      refine ⟨hA.1, hA.2.1, hA.2.2, fun x hx => ?_, fun x hx => ?_, by omega, by omega, by omega, by omega, by omega, by omega, by omega, by omega, by omega, by omega⟩
      · obtain ⟨i, hi, rfl⟩ := List.mem_iff_getElem.1 hx
        exact (hall i hi (by omega)).1
      · obtain ⟨i, hi, rfl⟩ := List.mem_iff_getElem.1 hx
        exact (hall i (by omega) hi).2
    · simp [leI, h.most0, h.most1, h.yield0, h.yield1, h.store0, h.store1, h.first0, h.first1, h.loss0, h.loss1]
  | some r =>
    obtain ⟨i, hi, h1, _⟩ := range_some hf
    rw [dif_pos ⟨hi, by omega⟩] at h1
    split at h1
    · cases h1
    · rename_i hn
      cases h1
      exact ⟨false, rfl, ⟨nofun, fun h => absurd ⟨h.need _ (List.getElem_mem hi), h.price _ (List.getElem_mem (by omega))⟩ hn⟩⟩

def nd (s : T29) (i : Nat) : Int := s.need_.getD i 0
def pr (s : T29) (i : Nat) : Int := s.price_.getD i 0
/-- What is there behind a slot. -/
def left (s : T29) (i : Nat) (store logs : Int) : Int := store + logs * s.yield_ - nd s i
/-- The store behind a slot. -/
def aft (s : T29) (i : Nat) (store logs : Int) : Option Int :=
  if left s i store logs < 0 then none else some (minI (left s i store logs - (left s i store logs * s.loss_).tdiv 100) s.store_)

theorem nd_get {s : T29} {i : Nat} (h : i < s.need_.length) : s.need_[i] = nd s i := by simp [nd, List.getD, h]
theorem pr_get {s : T29} {i : Nat} (h : i < s.price_.length) : s.price_[i] = pr s i := by simp [pr, List.getD, h]
theorem nd_bnd {s : T29} (hv : Valid s) {i : Nat} (h : i < s.need_.length) : 0 ≤ nd s i ∧ nd s i ≤ 200 := by rw [← nd_get h]; exact hv.need _ (List.getElem_mem h)
theorem pr_bnd {s : T29} (hv : Valid s) {i : Nat} (h : i < s.need_.length) : 0 ≤ pr s i ∧ pr s i ≤ 1000 := by
  have h' : i < s.price_.length := by rw [hv.pl]; exact h
  rw [← pr_get h']; exact hv.price _ (List.getElem_mem h')

theorem mul_bnd {a b A B : Int} (h1 : 0 ≤ a) (h2 : a ≤ A) (h3 : 0 ≤ b) (h4 : b ≤ B) : 0 ≤ a * b ∧ a * b ≤ A * B :=
  ⟨Int.mul_nonneg h1 h3, Int.mul_le_mul h2 h4 h3 (by omega)⟩
theorem tdiv_bnd {a : Int} (h : 0 ≤ a) : 0 ≤ a.tdiv 100 ∧ a.tdiv 100 ≤ a := by
  rw [Int.tdiv_eq_ediv_of_nonneg h]; omega

theorem left_bnd {s : T29} (hv : Valid s) {i : Nat} (hi : i < s.need_.length) {store logs : Int} (h1 : 0 ≤ store) (h2 : store ≤ s.store_) (h3 : 0 ≤ logs) (h4 : logs ≤ s.most_) : -200 ≤ left s i store logs ∧ left s i store logs ≤ 860 ∧ 0 ≤ logs * s.yield_ ∧ logs * s.yield_ ≤ 800 := by
  obtain ⟨b1, b2⟩ := nd_bnd hv hi
  obtain ⟨m1, m2⟩ := mul_bnd (A := 20) (B := 40) h3 (by have := hv.most1; omega) (show 0 ≤ s.yield_ by have := hv.yield0; omega) hv.yield1
  have := hv.store1
  unfold left
  omega

theorem aft_range {s : T29} (hv : Valid s) {i : Nat} {store logs v : Int} (h : aft s i store logs = some v) : 0 ≤ v ∧ v ≤ s.store_ := by
  unfold aft at h
  split at h
  · cases h
  · rename_i hh
    obtain rfl := Option.some.inj h
    have p1 := Int.mul_nonneg (show 0 ≤ left s i store logs by omega) hv.loss0
    have p2 : left s i store logs * s.loss_ ≤ left s i store logs * 100 := Int.mul_le_mul_of_nonneg_left hv.loss1 (by omega)
    rw [Int.tdiv_eq_ediv_of_nonneg p1]
    have := hv.store0
    unfold minI
    split <;> omega

section
variable {s : T29} {i : Nat} {store logs : Int}
theorem aft_parts (hv : Valid s) (hi : i < s.need_.length) (h1 : 0 ≤ store) (h2 : store ≤ s.store_) (h3 : 0 ≤ logs) (h4 : logs ≤ s.most_) :
    mI .i64 logs s.yield_ = logs * s.yield_ ∧ aI .i64 store (logs * s.yield_) = store + logs * s.yield_ ∧ sI .i64 (store + logs * s.yield_) (nd s i) = left s i store logs ∧
    (0 ≤ left s i store logs → mI .i64 (left s i store logs) s.loss_ = left s i store logs * s.loss_ ∧ dI .i64 (left s i store logs * s.loss_) 100 = some ((left s i store logs * s.loss_).tdiv 100) ∧ sI .i64 (left s i store logs) ((left s i store logs * s.loss_).tdiv 100) = left s i store logs - (left s i store logs * s.loss_).tdiv 100) := by
  obtain ⟨b1, b2, b3, b4⟩ := left_bnd hv hi h1 h2 h3 h4
  have := hv.store1
  have e0 := nd_bnd hv hi
  have hl : store + logs * s.yield_ - nd s i = left s i store logs := rfl
  refine ⟨mI64 (by omega) (by omega), aI64 (by omega) (by omega), ?_, fun hh => ?_⟩
  · rw [sI64 (by omega) (by omega)]; rfl
  · obtain ⟨q1, q2⟩ := mul_bnd (A := 860) (B := 100) hh b2 hv.loss0 hv.loss1
    obtain ⟨t1, t2⟩ := tdiv_bnd q1
    exact ⟨mI64 (by omega) (by omega), dI64 (by omega) (by omega) (by omega), sI64 (by omega) (by omega)⟩

theorem g91_eq (hv : Valid s) (hi : i < s.need_.length) (h1 : 0 ≤ store) (h2 : store ≤ s.store_) (h3 : 0 ≤ logs) (h4 : logs ≤ s.most_) : g91 s (i : Int) store logs = some (match aft s i store logs with | none => -1 | some v => v) := by
  obtain ⟨p1, p2, p3, p4⟩ := aft_parts hv hi h1 h2 h3 h4
  unfold g91 aft
  rw [idx_nat hi, Option.bind_some, nd_get hi, p1, p2, p3]
  simp only [ltI, decide_eq_true_eq]
  by_cases hh : left s i store logs < 0
  · rw [if_pos hh, if_pos hh]
  · obtain ⟨r1, r2, r3⟩ := p4 (by omega)
    rw [if_neg hh, if_neg hh, r1, r2, Option.bind_some, r3]
    unfold g105 minI
    simp only [ltI, decide_eq_true_eq]
    split <;> rfl

theorem g89_eq (hv : Valid s) (hi : i < s.need_.length) (h1 : 0 ≤ store) (h2 : store ≤ s.store_) (h3 : 0 ≤ logs) (h4 : logs ≤ s.most_) : g89 s (i : Int) store logs = some (match aft s i store logs with | none => (0, false) | some v => (v, true)) := by
  obtain ⟨p1, p2, p3, p4⟩ := aft_parts hv hi h1 h2 h3 h4
  unfold g89 aft
  rw [idx_nat hi, Option.bind_some, nd_get hi, p1, p2, p3]
  simp only [ltI, decide_eq_true_eq]
  by_cases hh : left s i store logs < 0
  · rw [if_pos hh, if_pos hh]
  · obtain ⟨r1, r2, r3⟩ := p4 (by omega)
    rw [if_neg hh, if_neg hh, r1, r2, Option.bind_some, r3]

/-- The least number of logs that do, and the store behind them. -/
def few (s : T29) (i : Nat) (store : Int) : Option (Int × Int) := (List.range (s.most_.toNat + 1)).findSome? fun (n : Nat) => (aft s i store (n : Int)).map fun v => ((n : Int), v)

theorem few_some (hv : Valid s) {p : Int × Int} (h : few s i store = some p) : 0 ≤ p.1 ∧ p.1 ≤ s.most_ ∧ 0 ≤ p.2 ∧ p.2 ≤ s.store_ ∧ aft s i store p.1 = some p.2 := by
  obtain ⟨n, hn, h1, _⟩ := range_some h
  rw [Option.map_eq_some_iff] at h1
  obtain ⟨v, h2, rfl⟩ := h1
  obtain ⟨r1, r2⟩ := aft_range hv h2
  have := hv.most0
  exact ⟨by simp, by simp only; omega, r1, r2, h2⟩

theorem g87_eq (hv : Valid s) (hi : i < s.need_.length) (h1 : 0 ≤ store) (h2 : store ≤ s.store_) : g87 s (i : Int) store = some (match few s i store with | none => (-1, -1) | some p => p) := by
  have m0 := hv.most0
  have m1 := hv.most1
  have hL := loop_scan (body := g87_L1 s i store) (n := s.most_.toNat + 1) (fun (n : Nat) => (aft s i store (n : Int)).map fun v => .inr ((n : Int), v)) (.inl ()) (fun n hn => by
    rw [g87_L1]
    have hle : (n : Int) ≤ s.most_ := by omega
    rw [if_pos (by simp [leI]; omega), g91_eq hv hi h1 h2 (by omega) hle, Option.bind_some, succI (by omega)]
    cases ha : aft s i store n with
    | none => simp [leI]
    | some v => simp [leI, (aft_range hv ha).1]) (by
    rw [g87_L1, if_neg (by simp [leI]; omega)])
  unfold g87 g87_j1 few
  rw [hL]
  have : (List.range (s.most_.toNat + 1)).findSome? (fun (n : Nat) => (aft s i store (n : Int)).map fun v => (.inr ((n : Int), v) : Unit ⊕ (Int × Int))) = ((List.range (s.most_.toNat + 1)).findSome? fun (n : Nat) => (aft s i store (n : Int)).map fun v => ((n : Int), v)).map .inr := by
    induction (List.range (s.most_.toNat + 1)) with
    | nil => rfl
    | cons x l ih => rw [List.findSome?_cons, List.findSome?_cons, ih]; cases aft s i store x <;> rfl
  rw [this]
  cases (List.range (s.most_.toNat + 1)).findSome? fun (n : Nat) => (aft s i store (n : Int)).map fun v => ((n : Int), v) <;> rfl

theorem g86_eq (hv : Valid s) (hi : i < s.need_.length) (h1 : 0 ≤ store) (h2 : store ≤ s.store_) : g86 s (i : Int) store = some (match few s i store with | none => (0, 0, false) | some p => (p.1, p.2, true)) := by
  have m0 := hv.most0
  have m1 := hv.most1
  have hL := loop_scan (body := g86_L1 s i store) (n := s.most_.toNat + 1) (fun (n : Nat) => (aft s i store (n : Int)).map fun v => .inr ((n : Int), v, true)) (.inl ()) (fun n hn => by
    rw [g86_L1]
    have hle : (n : Int) ≤ s.most_ := by omega
    rw [aI64 (by omega) (by omega), if_pos (by simp [ltI]; omega), g89_eq hv hi h1 h2 (by omega) hle, Option.bind_some, succI (by omega)]
    cases ha : aft s i store n with
    | none => simp
    | some v => simp) (by
    rw [g86_L1, aI64 (by omega) (by omega), if_neg (by simp [ltI]; omega)])
  unfold g86 g86_j1 few
  rw [hL]
  have : (List.range (s.most_.toNat + 1)).findSome? (fun (n : Nat) => (aft s i store (n : Int)).map fun v => (.inr ((n : Int), v, true) : Unit ⊕ (Int × Int × Bool))) = ((List.range (s.most_.toNat + 1)).findSome? fun (n : Nat) => (aft s i store (n : Int)).map fun v => ((n : Int), v)).map fun p => .inr (p.1, p.2, true) := by
    induction (List.range (s.most_.toNat + 1)) with
    | nil => rfl
    | cons x l ih => rw [List.findSome?_cons, List.findSome?_cons, ih]; cases aft s i store x <;> rfl
  rw [this]
  cases (List.range (s.most_.toNat + 1)).findSome? fun (n : Nat) => (aft s i store (n : Int)).map fun v => ((n : Int), v) <;> rfl
end

theorem dec53 {list : List Int} (hl : list.length ≤ 1000) (h : ∀ n ∈ list, 0 ≤ n ∧ n < 10000) : g53 list = some (sb (Lib.join (list.map Lib.itoa) [32])) := by
  have hL : loopO (g53_L1 list) (0, []) = some (list.map fun n => sb (Lib.itoa n)) := by
    have := loop_run (body := g53_L1 list) (fun i => ((i : Int), (list.take i).map fun n => sb (Lib.itoa n))) list.length (fun i hi => by
      obtain ⟨a1, a2⟩ := h list[i] (List.getElem_mem hi)
      rw [g53_L1, if_pos (by simp [ltI]; omega), idx_nat hi, Option.bind_some]
      unfold g96
      rw [fmtInt_sb (by omega) (by omega), Option.bind_some, appK_of (by simp; omega) (by simp; omega), Option.bind_some, succI (by omega), List.take_succ_eq_append_getElem hi, List.map_append]
      rfl) (r := list.map fun n => sb (Lib.itoa n)) (by
      rw [g53_L1, if_neg (by simp [ltI]), List.take_length])
    simpa using this
  have hm : (list.map fun n => sb (Lib.itoa n)) = (list.map Lib.itoa).map sb := by simp
  have hj : (Lib.join (list.map Lib.itoa) [32]).length ≤ 5000 := by
    have := join_len [32] 4 (list.map Lib.itoa) (fun x hx => by
      obtain ⟨n, hn, rfl⟩ := List.mem_map.1 hx
      exact itoa_len (h n hn).1 (h n hn).2)
    simp at this
    omega
  unfold g53 g53_j1 g97
  rw [hL, Option.bind_some, hm, show (⟨#[32]⟩ : ByteArray) = sb [32] from rfl, joinO_sb (by simp; omega) (by omega), Option.bind_some]

/-- A valid act. -/
def ActOk (a : T22) : Prop := (1 ≤ a.kind_ ∧ a.kind_ ≤ 9) ∧ (0 ≤ a.a_ ∧ a.a_ ≤ 999) ∧ 0 ≤ a.b_ ∧ a.b_ ≤ 999
def wordsL : List (List UInt8) := [[], [108, 111, 97, 100], [107, 105, 110, 100, 108, 101], [114, 97, 107, 101], [99, 108, 101, 97, 110], [112, 97, 110, 101], [98, 114, 97, 105, 110], [109, 117, 116, 101], [100, 97, 109, 112, 101, 114], [119, 97, 105, 116]]
def wordL (k : Int) : List UInt8 := wordsL.getD k.toNat []
/-- The text of an act. -/
def actT (a : T22) : List UInt8 := wordL a.kind_ ++ [32] ++ Lib.itoa a.a_ ++ (if (((eqI a.kind_ 1 || eqI a.kind_ 5) || eqI a.kind_ 6) || eqI a.kind_ 8) = true then [32] ++ Lib.itoa a.b_ else [])
theorem word_at {k : Int} (h1 : 1 ≤ k) (h2 : k ≤ 9) : idx (wordsL.map sb) k = some (sb (wordL k)) ∧ (wordL k).length ≤ 6 := by
  obtain ⟨n, rfl⟩ := Int.eq_ofNat_of_zero_le (show 0 ≤ k by omega)
  have : n < 10 := by omega
  match n, this with
  | 0, _ => exact ⟨rfl, by decide⟩
  | 1, _ => exact ⟨rfl, by decide⟩
  | 2, _ => exact ⟨rfl, by decide⟩
  | 3, _ => exact ⟨rfl, by decide⟩
  | 4, _ => exact ⟨rfl, by decide⟩
  | 5, _ => exact ⟨rfl, by decide⟩
  | 6, _ => exact ⟨rfl, by decide⟩
  | 7, _ => exact ⟨rfl, by decide⟩
  | 8, _ => exact ⟨rfl, by decide⟩
  | 9, _ => exact ⟨rfl, by decide⟩
def lineT (s : T29) (k : Nat) : List UInt8 := Lib.itoa (s.need_.getD k 0) ++ [32] ++ Lib.itoa (s.price_.getD k 0) ++ [10]
def headT (s : T29) : List UInt8 := [115, 101, 97, 115, 111, 110, 32] ++ Lib.itoa s.most_ ++ [32] ++ Lib.itoa s.yield_ ++ [32] ++ Lib.itoa s.store_ ++ [32] ++ Lib.itoa s.first_ ++ [32] ++ Lib.itoa s.loss_ ++ [10]
def linesT (s : T29) (k : Nat) : List UInt8 := headT s ++ (List.range k).flatMap (lineT s)
theorem lines_succ (s : T29) (k : Nat) : linesT s (k + 1) = linesT s k ++ lineT s k := by
  unfold linesT
  rw [List.range_succ, List.flatMap_append]
  simp
theorem Valid.bnds {s : T29} (hv : Valid s) : (0 ≤ s.most_ ∧ s.most_ ≤ 20) ∧ (1 ≤ s.yield_ ∧ s.yield_ ≤ 40) ∧ (0 ≤ s.store_ ∧ s.store_ ≤ 60) ∧ (0 ≤ s.first_ ∧ s.first_ ≤ s.store_) ∧ 0 ≤ s.loss_ ∧ s.loss_ ≤ 100 := ⟨⟨hv.most0, hv.most1⟩, ⟨hv.yield0, hv.yield1⟩, ⟨hv.store0, hv.store1⟩, ⟨hv.first0, hv.first1⟩, hv.loss0, hv.loss1⟩
theorem head_len {s : T29} (hv : Valid s) : (headT s).length ≤ 100 := by
  obtain ⟨m1, y1, s1, f1, l1⟩ := hv.bnds
  have lm := itoa_len m1.1 (by omega)
  have ly := itoa_len (n := s.yield_) (by omega) (by omega)
  have ls := itoa_len s1.1 (by omega)
  have lf := itoa_len f1.1 (by omega)
  have ll := itoa_len l1.1 (by omega)
  unfold headT
  simp
  omega
theorem line_vals {s : T29} (hv : Valid s) {k : Nat} (h : k < s.need_.length) : s.need_.getD k 0 = s.need_[k] ∧ s.price_.getD k 0 = s.price_[k]'(by have := hv.pl; omega) ∧ (0 ≤ s.need_[k] ∧ s.need_[k] < 10000) ∧ 0 ≤ s.price_[k]'(by have := hv.pl; omega) ∧ s.price_[k]'(by have := hv.pl; omega) < 10000 := by
  have hp : k < s.price_.length := by have := hv.pl; omega
  have h1 := hv.need _ (List.getElem_mem h)
  have h2 := hv.price _ (List.getElem_mem hp)
  exact ⟨by simp [List.getD, h], by simp [List.getD, hp], ⟨h1.1, by omega⟩, h2.1, by omega⟩
theorem lines_len {s : T29} (hv : Valid s) : ∀ k, k ≤ s.need_.length → (linesT s k).length ≤ 100 + 10 * k
  | 0, _ => by have := head_len hv; simpa [linesT] using this
  | k + 1, h => by
    have h1 := lines_len hv k (by omega)
    obtain ⟨e1, e2, ⟨a1, a2⟩, b1, b2⟩ := line_vals hv (k := k) (by omega)
    have := itoa_len a1 a2
    have := itoa_len b1 b2
    rw [lines_succ]
    unfold lineT
    rw [e1, e2]
    simp
    omega
theorem text58 {s : T29} (hv : Valid s) (hs : Small s) : g58 s = some (sb (linesT s s.need_.length)) := by
  obtain ⟨m1, y1, s1, f1, l1⟩ := hv.bnds
  have lm := itoa_len m1.1 (by omega)
  have ly := itoa_len (n := s.yield_) (by omega) (by omega)
  have ls := itoa_len s1.1 (by omega)
  have lf := itoa_len f1.1 (by omega)
  have ll := itoa_len l1.1 (by omega)
  have hL : loopO (g58_L1 s) (sb (headT s), 0) = some (sb (linesT s s.need_.length)) := by
    have := loop_run (body := g58_L1 s) (fun i => (sb (linesT s i), (i : Int))) s.need_.length (fun i hi => by
      obtain ⟨e1, e2, ⟨a1, a2⟩, b1, b2⟩ := line_vals hv hi
      have hp : i < s.price_.length := by have := hv.pl; omega
      have la := itoa_len a1 a2
      have lb := itoa_len b1 b2
      have hl := lines_len hv i (by omega)
      have hsm := hs.1
      have e3 := dec53 (list := [s.need_[i], s.price_[i]]) (by simp) (by simp; omega)
      simp only [List.map_cons, List.map_nil, join_two] at e3
      rw [g58_L1, if_pos (by simp [ltI]; omega), idx_nat hi, Option.bind_some, idx_nat hp, Option.bind_some, e3, Option.bind_some, show (⟨#[10]⟩ : ByteArray) = sb [10] from rfl, cat_sb (by simp; omega), Option.bind_some, cat_sb (by simp; omega), Option.bind_some, succI (by omega), lines_succ]
      unfold lineT
      rw [e1, e2]) (r := sb (linesT s s.need_.length)) (by
      rw [g58_L1, if_neg (by simp [ltI])])
    simpa [linesT] using this
  have e5 := dec53 (list := [s.most_, s.yield_, s.store_, s.first_, s.loss_]) (by simp) (by simp; omega)
  have j5 : Lib.join [Lib.itoa s.most_, Lib.itoa s.yield_, Lib.itoa s.store_, Lib.itoa s.first_, Lib.itoa s.loss_] [32] = Lib.itoa s.most_ ++ [32] ++ Lib.itoa s.yield_ ++ [32] ++ Lib.itoa s.store_ ++ [32] ++ Lib.itoa s.first_ ++ [32] ++ Lib.itoa s.loss_ := by simp [Lib.join, List.intercalate]
  simp only [List.map_cons, List.map_nil, j5] at e5
  unfold g58 g58_j1
  rw [show (⟨#[10]⟩ : ByteArray) = sb [10] from rfl, show (⟨#[115, 101, 97, 115, 111, 110, 32]⟩ : ByteArray) = sb [115, 101, 97, 115, 111, 110, 32] from rfl]
  rw [e5, Option.bind_some, cat_sb (by simp; omega), Option.bind_some, cat_sb (by simp; omega), Option.bind_some]
  have hh : [115, 101, 97, 115, 111, 110, 32] ++ (Lib.itoa s.most_ ++ [32] ++ Lib.itoa s.yield_ ++ [32] ++ Lib.itoa s.store_ ++ [32] ++ Lib.itoa s.first_ ++ [32] ++ Lib.itoa s.loss_) ++ [10] = headT s := by simp [headT]
  rw [hh, hL]
  rfl


theorem join_cons2 (x y : List UInt8) (l : List (List UInt8)) (s : List UInt8) : Lib.join (x :: y :: l) s = x ++ s ++ Lib.join (y :: l) s := by simp [Lib.join, List.intercalate]
theorem join_one (x s : List UInt8) : Lib.join [x] s = x := by simp [Lib.join, List.intercalate]
theorem cut_of_join {c : UInt8} : ∀ {ps : List (List UInt8)}, ps ≠ [] → (∀ p ∈ ps, c ∉ p) → cutL c (Lib.join ps [c]) = ps
  | [], h, _ => absurd rfl h
  | [x], _, h => by rw [join_one, cut_none (h x (by simp))]
  | x :: y :: l, _, h => by
    rw [join_cons2, show x ++ [c] ++ Lib.join (y :: l) [c] = x ++ c :: Lib.join (y :: l) [c] by simp, cut_at (h x (by simp)), cut_of_join (by simp) (fun p hp => h p (by simp only [List.mem_cons] at hp ⊢; exact .inr hp))]
theorem join_mem_len {c : UInt8} {p : List UInt8} : ∀ {l : List (List UInt8)}, p ∈ l → p.length ≤ (Lib.join l [c]).length
  | [], h => by cases h
  | [x], h => by simp at h; subst h; rw [join_one]; exact Nat.le_refl _
  | x :: y :: l, h => by
    rw [join_cons2]
    rcases List.mem_cons.1 h with rfl | h
    · simp
    · have := join_mem_len (c := c) h
      simp at this ⊢
      omega
theorem join_num_len {c : UInt8} : ∀ {l : List (List UInt8)}, l ≠ [] → l.length ≤ (Lib.join l [c]).length + 1
  | [], h => absurd rfl h
  | [x], _ => by simp
  | x :: y :: l, _ => by
    have := join_num_len (c := c) (l := y :: l) (by simp)
    rw [join_cons2]
    simp at this ⊢
    omega
theorem piece_len {c : UInt8} {s p : List UInt8} (h : p ∈ cutL c s) : p.length ≤ s.length := by
  have := join_mem_len (c := c) h
  rwa [(cut_join _ s (Nat.le_refl _)).1] at this
theorem pieces_len (c : UInt8) (s : List UInt8) : (cutL c s).length ≤ s.length + 1 := by
  have := join_num_len (c := c) (cut_ne (c := c) s)
  rwa [(cut_join _ s (Nat.le_refl _)).1] at this

/-! ### Words, one after the other -/
theorem int70 {n : Int} (h0 : 0 ≤ n) (h1 : n < 10000) (l : List ByteArray) (b : Bool) (hl : l.length ≤ 2000000) : g70 ⟨sb (Lib.itoa n) :: l, b⟩ = some (n, ⟨l, b⟩) := by
  have pa := parse_itoa h0 (by omega)
  have la := itoa_len h0 h1
  unfold g70 g69 g100 parseIntO
  simp only [List.length_cons, List.tail_cons]
  rw [if_neg (by simp [eqI]; omega), show idx (sb (Lib.itoa n) :: l) 0 = some (sb (Lib.itoa n)) from rfl, Option.bind_some, cutK_of (by omega) (by simp; omega) (by simp), Option.bind_some, Option.bind_some, if_pos ⟨trivial, trivial, by simp; omega⟩, pa, Option.bind_some]
  simp
theorem next69 (w : ByteArray) (l : List ByteArray) (b : Bool) (hl : l.length ≤ 2000000) : g69 ⟨w :: l, b⟩ = some (w, ⟨l, b⟩) := by
  unfold g69
  simp only [List.length_cons, List.tail_cons]
  rw [if_neg (by simp [eqI]; omega), show idx (w :: l) 0 = some w from rfl, Option.bind_some, cutK_of (by omega) (by simp; omega) (by simp), Option.bind_some]
/-- Words of moderate length, not too many. -/
def Mod (r : T129) : Prop := (∀ x ∈ r.list_, x.size ≤ 1048576) ∧ r.list_.length ≤ 2000000
theorem next_any (r : T129) (h : Mod r) : ∃ w r', g69 r = some (w, r') ∧ w.size ≤ 1048576 ∧ Mod r' := by
  obtain ⟨hr, hl⟩ := h
  unfold g69
  cases hc : r.list_ with
  | nil => exact ⟨_, _, rfl, by simp [ByteArray.size], by simp [Mod]⟩
  | cons x t =>
    rw [hc] at hr hl
    rw [if_neg (by simp [eqI]; omega), show idx (x :: t) 0 = some x from rfl, Option.bind_some, cutK_of (by omega) (by simp; omega) (by simp), Option.bind_some]
    exact ⟨_, _, rfl, hr x (by simp), fun y hy => hr y (by simp at hy; simp [hy]), by simp at hl ⊢; omega⟩
theorem int_any (r : T129) (h : Mod r) : ∃ n r', g70 r = some (n, r') ∧ Mod r' := by
  obtain ⟨w, r', e, e1, e2⟩ := next_any r h
  unfold g70 g100 parseIntO
  rw [e, Option.bind_some, if_pos ⟨rfl, rfl, by show w.size ≤ _; omega⟩, Option.bind_some]
  exact ⟨_, _, rfl, e2⟩
theorem mod_cut {s : List UInt8} (hs : s.length ≤ 1048576) (c : UInt8) (b : Bool) : Mod ⟨(cutL c s).map sb, b⟩ := by
  refine ⟨fun x hx => ?_, ?_⟩
  · obtain ⟨p, hp, rfl⟩ := List.mem_map.1 hx
    have := piece_len hp
    simp; omega
  · have := pieces_len c s
    simp; omega

/-! ### The text of a season, in lines -/
def headP (s : T29) : List (List UInt8) := [[115, 101, 97, 115, 111, 110], Lib.itoa s.most_, Lib.itoa s.yield_, Lib.itoa s.store_, Lib.itoa s.first_, Lib.itoa s.loss_]
def lineP (s : T29) (k : Nat) : List (List UInt8) := [Lib.itoa (s.need_.getD k 0), Lib.itoa (s.price_.getD k 0)]
def bodyL (s : T29) (n : Nat) : List (List UInt8) := (List.range n).map fun k => Lib.join (lineP s k) [32]
def allL (s : T29) : List (List UInt8) := Lib.join (headP s) [32] :: (bodyL s s.need_.length ++ [[]])
def seasonT (s : T29) : List UInt8 := linesT s s.need_.length
theorem join_snoc (c : List UInt8) (y : List UInt8) : ∀ {l : List (List UInt8)}, l ≠ [] → Lib.join (l ++ [y]) c = Lib.join l c ++ c ++ y
  | [], h => absurd rfl h
  | [x], _ => by simp [Lib.join, List.intercalate]
  | x :: z :: l, _ => by
    have ih := join_snoc c y (l := z :: l) (by simp)
    rw [List.cons_append, List.cons_append, join_cons2, ← List.cons_append, ih, join_cons2]
    simp
theorem head_text (s : T29) : headT s = Lib.join (headP s) [32] ++ [10] := by
  unfold headT headP
  simp [Lib.join, List.intercalate]
theorem line_text (s : T29) (k : Nat) : lineT s k = Lib.join (lineP s k) [32] ++ [10] := by
  unfold lineT lineP
  simp [Lib.join, List.intercalate]
theorem season_text (s : T29) : seasonT s = Lib.join (allL s) [10] := by
  have key : ∀ n, linesT s n = Lib.join (Lib.join (headP s) [32] :: bodyL s n) [10] ++ [10] := fun n => by
    induction n with
    | zero => simp [linesT, bodyL, head_text, join_one]
    | succ n ih =>
      have : bodyL s (n + 1) = bodyL s n ++ [Lib.join (lineP s n) [32]] := by simp [bodyL, List.range_succ]
      rw [lines_succ, ih, line_text, this, ← List.cons_append, join_snoc _ _ (by simp)]
      simp
  unfold seasonT allL
  rw [key, ← List.cons_append, join_snoc _ _ (by simp)]
  simp
theorem dig_no {n : Int} (h0 : 0 ≤ n) {c : UInt8} (hc : isDig c = false) : c ∉ Lib.itoa n := by
  obtain ⟨a, _⟩ := itoa_num h0
  simp only [numOk, Bool.and_eq_true] at a
  intro h
  have := List.all_eq_true.1 a.1.1 _ h
  rw [hc] at this
  cases this
theorem head_cut {s : T29} (hv : Valid s) : cutL 32 (Lib.join (headP s) [32]) = headP s := by
  obtain ⟨m1, y1, s1, f1, l1⟩ := hv.bnds
  refine cut_of_join (by simp [headP]) fun p hp => ?_
  simp only [headP, List.mem_cons, List.not_mem_nil, or_false] at hp
  rcases hp with rfl | rfl | rfl | rfl | rfl | rfl
  · decide
  · exact dig_no m1.1 rfl
  · exact dig_no (by omega) rfl
  · exact dig_no s1.1 rfl
  · exact dig_no f1.1 rfl
  · exact dig_no l1.1 rfl
theorem line_cut {s : T29} (hv : Valid s) {k : Nat} (hk : k < s.need_.length) : cutL 32 (Lib.join (lineP s k) [32]) = lineP s k := by
  obtain ⟨e1, e2, ⟨a1, a2⟩, b1, b2⟩ := line_vals hv hk
  refine cut_of_join (by simp [lineP]) fun p hp => ?_
  simp only [lineP, List.mem_cons, List.not_mem_nil, or_false] at hp
  rcases hp with rfl | rfl
  · rw [e1]; exact dig_no a1 rfl
  · rw [e2]; exact dig_no b1 rfl
theorem join_no {c : UInt8} : ∀ {l : List (List UInt8)}, c ≠ 32 → (∀ p ∈ l, c ∉ p) → c ∉ Lib.join l [32]
  | [], _, _ => by simp [Lib.join]
  | [x], _, h => by rw [join_one]; exact h x (by simp)
  | x :: y :: l, hc, h => by
    rw [join_cons2]
    have ih := join_no (l := y :: l) hc (fun p hp => h p (by simp only [List.mem_cons] at hp ⊢; exact .inr hp))
    simp only [List.mem_append, List.mem_singleton, not_or]
    exact ⟨⟨h x (by simp), hc⟩, ih⟩
theorem season_cut {s : T29} (hv : Valid s) : cutL 10 (seasonT s) = allL s := by
  obtain ⟨m1, y1, s1, f1, l1⟩ := hv.bnds
  rw [season_text]
  refine cut_of_join (by simp [allL]) fun p hp => ?_
  simp only [allL, List.mem_cons, List.mem_append, List.not_mem_nil, or_false] at hp
  rcases hp with rfl | hp | rfl
  · refine join_no (by decide) fun p hp => ?_
    simp only [headP, List.mem_cons, List.not_mem_nil, or_false] at hp
    rcases hp with rfl | rfl | rfl | rfl | rfl | rfl
    · decide
    · exact dig_no m1.1 rfl
    · exact dig_no (by omega) rfl
    · exact dig_no s1.1 rfl
    · exact dig_no f1.1 rfl
    · exact dig_no l1.1 rfl
  · obtain ⟨k, hk, rfl⟩ := List.mem_map.1 hp
    obtain ⟨e1, e2, ⟨a1, a2⟩, b1, b2⟩ := line_vals hv (List.mem_range.1 hk)
    refine join_no (by decide) fun p hp => ?_
    simp only [lineP, List.mem_cons, List.not_mem_nil, or_false] at hp
    rcases hp with rfl | rfl
    · rw [e1]; exact dig_no a1 rfl
    · rw [e2]; exact dig_no b1 rfl
  · simp

/-! ### The program's reading -/
theorem season27 {t : List UInt8} (hs : t.length ≤ 1048576) : (∃ s, Valid s ∧ Small s ∧ seasonT s = t ∧ g27 (sb t) = some (s, 0)) ∨ ((∀ s, Valid s → Small s → seasonT s ≠ t) ∧ g27 (sb t) = some (⟨[], [], 0, 0, 0, 0, 0⟩, 5)) := by
  have g74e : ∀ t : List UInt8, t.length ≤ 1048576 → t ≠ [] → ∃ last, (cutL 10 t).getLast? = some last ∧ g74 (sb t) = some (((cutL 10 t).map sb).take ((cutL 10 t).length - 1), decide (last = [])) := fun t ht hne => by
    have h1 := pieces_len 10 t
    have h2 := cut_ne (c := 10) t
    have h3 : 1 ≤ (cutL 10 t).length := List.length_pos_iff.2 h2
    refine ⟨(cutL 10 t)[(cutL 10 t).length - 1], by rw [List.getLast?_eq_getElem?, List.getElem?_eq_getElem (by omega)], ?_⟩
    unfold g74 g99
    rw [sb_nil, eqS_sb, if_neg (by simpa using hne), show (⟨#[10]⟩ : ByteArray) = sb [10] from rfl, splitO_cut (by omega), Option.bind_some, sI64 (by simp; omega) (by simp; omega), cutK_of (by omega) (by simp; omega) (by simp; omega), Option.bind_some]
    have e : (((cutL 10 t).map sb).length : Int) - 1 = (((cutL 10 t).length - 1 : Nat) : Int) := by simp; omega
    rw [e, idx_nat (by simp; omega), Option.bind_some, Int.toNat_natCast, List.getElem_map, eqS_sb]
  by_cases hex : ∃ s, Valid s ∧ Small s ∧ seasonT s = t
  · obtain ⟨s, hv, hsm, rfl⟩ := hex
    left
    refine ⟨s, hv, hsm, rfl, ?_⟩
    have hn1 := hv.n1; have hn2 := hv.n2; have hpl := hv.pl
    have hc := season_cut hv
    obtain ⟨m1, y1, s1, f1, l1⟩ := hv.bnds
    have hne : seasonT s ≠ [] := by
      intro e
      rw [e] at hc
      have := congrArg List.length hc
      simp [cutL, allL, bodyL] at this
    obtain ⟨last, q1, q2⟩ := g74e _ hs hne
    have hlast : last = [] := by
      have q3 : (allL s).getLast? = some [] := by unfold allL; rw [← List.cons_append, List.getLast?_append]; simp
      rw [hc, q3] at q1
      exact (Option.some.inj q1).symm
    rw [hlast, hc] at q2
    have hlen : (allL s).length - 1 = s.need_.length + 1 := by simp [allL, bodyL]
    have htk : ((allL s).map sb).take (s.need_.length + 1) = sb (Lib.join (headP s) [32]) :: (bodyL s s.need_.length).map sb := by
      unfold allL
      rw [List.map_cons, List.take_succ_cons, List.map_append, List.take_append_of_le_length (by simp [bodyL]), List.take_of_length_le (by simp [bodyL])]
    rw [hlen, htk] at q2
    have hh : (Lib.join (headP s) [32]).length ≤ 1048576 := by
      have := piece_len (c := 10) (s := seasonT s) (p := Lib.join (headP s) [32]) (by rw [hc]; simp [allL])
      omega
    obtain ⟨b, c1, c2⟩ := g39_eq hsm
    have hb : b = true := c2.2 hv
    subst hb
    have fin : g27_j2 (s.most_, ⟨[], false⟩) (s.yield_, ⟨[], false⟩) (s.store_, ⟨[], false⟩) (s.first_, ⟨[], false⟩) (s.loss_, ⟨[], false⟩) (sb (seasonT s)) true s.need_ s.price_ = some (s, 0) := by
      unfold g27_j2
      have e : (⟨s.need_, s.price_, s.most_, s.yield_, s.store_, s.first_, s.loss_⟩ : T29) = s := by cases s; rfl
      simp only [e]
      rw [if_neg (by simp), c1, Option.bind_some, Option.bind_some, if_neg (by simp), text58 hv hsm]
      simp [seasonT, eqS_self]
    unfold g27
    rw [q2, Option.bind_some]
    simp only [List.length_cons, List.length_map, decide_true]
    have hbl : (bodyL s s.need_.length).length = s.need_.length := by simp [bodyL]
    rw [hbl, if_neg (by simp [ltI]; omega), show idx (sb (Lib.join (headP s) [32]) :: (bodyL s s.need_.length).map sb) 0 = some (sb (Lib.join (headP s) [32])) from rfl, Option.bind_some]
    unfold g99
    rw [show (⟨#[32]⟩ : ByteArray) = sb [32] from rfl, splitO_cut (by omega), Option.bind_some, head_cut hv]
    unfold headP
    simp only [List.map_cons, List.map_nil]
    rw [next69 _ _ _ (by simp), Option.bind_some, show (⟨#[115, 101, 97, 115, 111, 110]⟩ : ByteArray) = sb [115, 101, 97, 115, 111, 110] from rfl, eqS_sb, if_neg (by simp)]
    unfold g27_j1
    rw [int70 m1.1 (by omega) _ _ (by simp), Option.bind_some, int70 (n := s.yield_) (by omega) (by omega) _ _ (by simp), Option.bind_some, int70 s1.1 (by omega) _ _ (by simp), Option.bind_some, int70 f1.1 (by omega) _ _ (by simp), Option.bind_some, int70 l1.1 (by omega) _ _ (by simp), Option.bind_some]
    unfold g71
    rw [Option.bind_some, cutK_of (by omega) (by simp; omega) (by simp), Option.bind_some]
    have hL : loopO (g27_L1 (sb (Lib.join (headP s) [32]) :: (bodyL s s.need_.length).map sb, true)) (true, 0, [], []) = some (true, s.need_, s.price_) := by
      have := loop_run (body := g27_L1 (sb (Lib.join (headP s) [32]) :: (bodyL s s.need_.length).map sb, true)) (fun i => (true, (i : Int), s.need_.take i, s.price_.take i)) s.need_.length (fun i hi => by
        obtain ⟨e1, e2, ⟨a1, a2⟩, b1, b2⟩ := line_vals hv hi
        have hi2 : i < s.price_.length := by omega
        have hll : (Lib.join (lineP s i) [32]).length ≤ 1048576 := by
          have := piece_len (c := 10) (s := seasonT s) (p := Lib.join (lineP s i) [32]) (by rw [hc]; simp only [allL, bodyL, List.mem_cons, List.mem_append, List.mem_map, List.mem_range]; exact .inr (.inl ⟨i, hi, rfl⟩))
          omega
        rw [g27_L1]
        simp only [List.tail_cons, List.length_map, hbl]
        rw [if_pos (by simp [ltI]; omega), idx_nat (by simpa [hbl] using hi), Option.bind_some]
        have hx : ((bodyL s s.need_.length).map sb)[i]'(by simpa [hbl] using hi) = sb (Lib.join (lineP s i) [32]) := by simp [bodyL]
        rw [hx]
        unfold g99
        rw [show (⟨#[32]⟩ : ByteArray) = sb [32] from rfl, splitO_cut (by omega), Option.bind_some, line_cut hv hi]
        unfold lineP
        rw [e1, e2]
        simp only [List.map_cons, List.map_nil]
        rw [int70 a1 a2 _ _ (by simp), Option.bind_some, appK_of (by simp; omega) (by simp; omega), Option.bind_some, int70 b1 b2 _ _ (by simp), Option.bind_some, appK_of (by simp; omega) (by simp; omega), Option.bind_some, if_pos trivial]
        unfold g71
        rw [Option.bind_some, Option.bind_some, succI (by omega), List.take_succ_eq_append_getElem hi, List.take_succ_eq_append_getElem hi2]
        rfl) (r := (true, s.need_, s.price_)) (by
        rw [g27_L1]
        simp only [List.tail_cons, List.length_map, hbl]
        rw [if_neg (by simp [ltI]), List.take_length, List.take_of_length_le (by omega)])
      simpa using this
    have e0 : ((!false) && eqI (([] : List ByteArray).length : Int) 0) = true := rfl
    simp only [e0]
    unfold headP at hL
    rw [hL]
    simp only [Option.bind_some]
    unfold g27_j2 at fin ⊢
    exact fin
  · right
    refine ⟨fun s h1 h2 h3 => hex ⟨s, h1, h2, h3⟩, ?_⟩
    have key : ∀ (A B C D E : Int × T129) (f : Bool) (l1 l2 : List Int), l1.length ≤ 1048576 → l2.length ≤ 1048576 → g27_j2 A B C D E (sb t) f l1 l2 = some (⟨[], [], 0, 0, 0, 0, 0⟩, 5) := fun A B C D E f l1 l2 h1 h2 => by
      unfold g27_j2
      obtain ⟨b, c1, c2⟩ := g39_eq (s := ⟨l1, l2, A.1, B.1, C.1, D.1, E.1⟩) ⟨h1, h2⟩
      by_cases hf : (!f) = true
      · rw [if_pos hf, Option.bind_some, if_pos rfl, Option.bind_some, if_pos rfl]
      · rw [if_neg hf, c1, Option.bind_some, Option.bind_some]
        cases b with
        | false => rfl
        | true =>
          have hv := c2.1 rfl
          rw [if_neg (by simp), text58 hv ⟨h1, h2⟩, Option.bind_some, eqS_sb, Option.bind_some, if_pos]
          simpa using fun e => hex ⟨_, hv, ⟨h1, h2⟩, by simpa [seasonT] using e⟩
    by_cases hne : t = []
    · subst hne
      unfold g27 g74
      rw [sb_nil, eqS_self]
      rfl
    obtain ⟨last, q1, q2⟩ := g74e t hs hne
    have h1 := pieces_len 10 t
    have h2 := cut_ne (c := 10) t
    have h3 : 1 ≤ (cutL 10 t).length := List.length_pos_iff.2 h2
    unfold g27
    rw [q2, Option.bind_some]
    generalize hR : ((cutL 10 t).map sb).take ((cutL 10 t).length - 1) = R
    have hRm : ∀ x ∈ R, ∃ p, x = sb p ∧ p.length ≤ 1048576 := fun x hx => by
      rw [← hR] at hx
      obtain ⟨p, hp, rfl⟩ := List.mem_map.1 (List.mem_of_mem_take hx)
      exact ⟨p, rfl, by have := piece_len hp; omega⟩
    by_cases hcnd : ((!(decide (last = [])) || ltI (R.length : Int) 1) || ltI 25 (R.length : Int)) = true
    · rw [if_pos hcnd]
    rw [if_neg hcnd]
    have hl : 1 ≤ R.length ∧ R.length ≤ 25 := by
      simp [ltI] at hcnd
      omega
    obtain ⟨p0, e0, e0l⟩ := hRm R[0] (List.getElem_mem _)
    have hi0 : idx R 0 = some R[0] := idx_nat (n := 0) (by omega)
    rw [hi0, Option.bind_some, e0]
    unfold g99
    rw [show (⟨#[32]⟩ : ByteArray) = sb [32] from rfl, splitO_cut (by omega), Option.bind_some]
    obtain ⟨w, r1, e1, _, m1⟩ := next_any _ (mod_cut e0l 32 false)
    rw [e1, Option.bind_some]
    have body : ∀ r : T129, Mod r → ∀ b, g27_j1 (R, decide (last = [])) (sb t) r.list_ b = some (⟨[], [], 0, 0, 0, 0, 0⟩, 5) := fun r hm b => by
      unfold g27_j1
      obtain ⟨n1, r1, e1, m1⟩ := int_any ⟨r.list_, b⟩ hm
      obtain ⟨n2, r2, e2, m2⟩ := int_any r1 m1
      obtain ⟨n3, r3, e3, m3⟩ := int_any r2 m2
      obtain ⟨n4, r4, e4, m4⟩ := int_any r3 m3
      obtain ⟨n5, r5, e5, m5⟩ := int_any r4 m4
      rw [e1, Option.bind_some, e2, Option.bind_some, e3, Option.bind_some, e4, Option.bind_some, e5, Option.bind_some]
      unfold g71
      rw [Option.bind_some, cutK_of (by omega) (by simp; omega) (by simp), Option.bind_some]
      obtain ⟨x, ex, hx⟩ := loopO_rule (body := g27_L1 (R, decide (last = []))) (fun st => R.tail.length - st.2.1.toNat)
        (fun st => ∃ (q : Nat) (f : Bool) (l1 l2 : List Int), st = (f, (q : Int), l1, l2) ∧ q ≤ R.tail.length ∧ l1.length = q ∧ l2.length = q) (fun x => x.2.1.length ≤ 1048576 ∧ x.2.2.length ≤ 1048576) (fun st ⟨q, f, l1, l2, e, a1, a2, a3⟩ => by
          subst e
          have htl : R.tail.length ≤ 24 := by simp; omega
          rw [g27_L1]
          by_cases hq : q < R.tail.length
          · left
            obtain ⟨p, ep, epl⟩ := hRm R.tail[q] (List.mem_of_mem_tail (List.getElem_mem hq))
            rw [if_pos (by simp only [ltI, decide_eq_true_eq]; omega), idx_nat hq, Option.bind_some, ep]
            unfold g99
            rw [show (⟨#[32]⟩ : ByteArray) = sb [32] from rfl, splitO_cut (by omega), Option.bind_some]
            obtain ⟨n1, r1, e1, m1⟩ := int_any _ (mod_cut epl 32 false)
            obtain ⟨n2, r2, e2, m2⟩ := int_any r1 m1
            rw [e1, Option.bind_some, appK_of (by simp; omega) (by simp; omega), Option.bind_some, e2, Option.bind_some, appK_of (by simp; omega) (by simp; omega), Option.bind_some]
            unfold g71
            cases f with
            | true =>
              rw [if_pos rfl, Option.bind_some, Option.bind_some, succI (by omega)]
              exact ⟨_, rfl, ⟨q + 1, _, _, _, rfl, by omega, by simp; omega, by simp; omega⟩, by simp only; omega⟩
            | false =>
              rw [if_neg (by simp), Option.bind_some, succI (by omega)]
              exact ⟨_, rfl, ⟨q + 1, _, _, _, rfl, by omega, by simp; omega, by simp; omega⟩, by simp only; omega⟩
          · right
            rw [if_neg (by simp only [ltI, decide_eq_true_eq]; omega)]
            exact ⟨_, rfl, by simp only; omega, by simp only; omega⟩) (s := ((!r5.bad_) && eqI (r5.list_.length : Int) 0, 0, [], [])) ⟨0, _, [], [], rfl, by omega, rfl, rfl⟩
      rw [ex, Option.bind_some]
      exact key _ _ _ _ _ _ _ _ hx.1 hx.2
    split
    · exact body r1 m1 true
    · exact body r1 m1 r1.bad_

theorem season_inj {s s' : T29} (hv : Valid s) (hv' : Valid s') (h : seasonT s = seasonT s') : s = s' := by
  have h1 := season_cut hv
  have h2 := season_cut hv'
  rw [h, h2] at h1
  have hn : s'.need_.length = s.need_.length := by
    have := congrArg List.length h1
    simp [allL, bodyL] at this
    exact this
  have inj : ∀ {a b : Int}, 0 ≤ a → 0 ≤ b → Lib.itoa a = Lib.itoa b → a = b := fun ha hb e => by
    have x := (itoa_num ha).2
    have y := (itoa_num hb).2
    rw [e] at x
    omega
  have hh : headP s' = headP s := by
    have := congrArg (fun l => cutL 32 (l.head?.getD [])) h1
    simp only [allL, List.head?_cons, Option.getD_some] at this
    rwa [head_cut hv, head_cut hv'] at this
  obtain ⟨m1, y1, s1, f1, l1⟩ := hv.bnds
  obtain ⟨m2, y2, s2, f2, l2⟩ := hv'.bnds
  simp only [headP, List.cons.injEq, and_true, true_and] at hh
  have lines : ∀ k, k < s.need_.length → lineP s' k = lineP s k := fun k hk => by
    have := congrArg (fun l => cutL 32 (l[k + 1]?.getD [])) h1
    simp only [allL, List.getElem?_cons_succ] at this
    rw [List.getElem?_append_left (by simp [bodyL]; omega), List.getElem?_append_left (by simp [bodyL]; omega)] at this
    simp only [bodyL, List.getElem?_map, List.getElem?_range (show k < s.need_.length by omega), List.getElem?_range (show k < s'.need_.length by omega), Option.map_some, Option.getD_some] at this
    rwa [line_cut hv hk, line_cut hv' (by omega)] at this
  have hp := hv.pl
  have hp' := hv'.pl
  have hneed : s.need_ = s'.need_ := by
    apply List.ext_getElem
    · omega
    · intro k k1 k2
      obtain ⟨e1, e2, ⟨a1, _⟩, _⟩ := line_vals hv k1
      obtain ⟨e1', e2', ⟨a1', _⟩, _⟩ := line_vals hv' k2
      have := lines k k1
      simp only [lineP, e1, e2, e1', e2', List.cons.injEq, and_true] at this
      exact inj a1 a1' this.1.symm
  have hprice : s.price_ = s'.price_ := by
    apply List.ext_getElem
    · omega
    · intro k k1 k2
      obtain ⟨e1, e2, _, b1, _⟩ := line_vals hv (k := k) (by omega)
      obtain ⟨e1', e2', _, b1', _⟩ := line_vals hv' (k := k) (by omega)
      have := lines k (by omega)
      simp only [lineP, e1, e2, e1', e2', List.cons.injEq, and_true] at this
      exact inj b1 b1' this.2.symm
  have q1 := inj m2.1 m1.1 hh.1
  have q2 := inj (show 0 ≤ s'.yield_ by omega) (show 0 ≤ s.yield_ by omega) hh.2.1
  have q3 := inj s2.1 s1.1 hh.2.2.1
  have q4 := inj f2.1 f1.1 hh.2.2.2.1
  have q5 := inj l2.1 l1.1 hh.2.2.2.2
  cases s
  cases s'
  simp only at hneed hprice q1 q2 q3 q4 q5
  subst hneed hprice q1 q2 q3 q4 q5
  rfl

noncomputable def markB : (Int × Int × List Int) → Option ((Int × Int × List Int) ⊕ (Int × List Int))
  | (k, i, l) =>
    if ltI i (l.length : Int) = true then
      (idx l i).bind fun e =>
      some (.inl (aI .i64 k 1, aI .i64 i 1, (l.set i.toNat k)))
    else
      some (.inr (k, l))

theorem mark_eq {l : List Int} {k : Int} (hk : 0 ≤ k) (hk2 : k ≤ 4611686018427387904) (hl : l.length ≤ 1048576) : loopO markB (k, 0, l) = some (k + l.length, marks k l.length) := by
  have hset : ∀ i, i < l.length → (marks k i ++ l.drop i).set i (k + i) = marks k (i + 1) ++ l.drop (i + 1) := fun i hi => by
    apply List.ext_getElem?
    intro j
    rw [List.getElem?_set]
    simp only [List.length_append, marks_length, List.length_drop]
    by_cases hj : i = j
    · subst hj
      rw [if_pos rfl, if_pos (by omega), List.getElem?_append_left (by simp), marks_get (by omega)]
    · rw [if_neg hj]
      by_cases hlt : j < i
      · rw [List.getElem?_append_left (by simpa using hlt), List.getElem?_append_left (by simp; omega), marks_get hlt, marks_get (by omega)]
      · rw [List.getElem?_append_right (by simp; omega), List.getElem?_append_right (by simp; omega)]
        simp only [marks_length, List.getElem?_drop]
        congr 1; omega
  have := loop_run (body := markB) (fun i => (k + i, (i : Int), marks k i ++ l.drop i)) l.length (fun i hi => by
    have hlen : (marks k i ++ l.drop i).length = l.length := by simp; omega
    rw [markB, hlen, if_pos (by simp [ltI]; omega), idx_nat (by omega), Option.bind_some, succI (by omega), aI64 (by omega) (by omega), Int.toNat_natCast, hset i hi]
    congr 3
    omega) (r := (k + l.length, marks k l.length)) (by
    rw [markB]
    have hlen : (marks k l.length ++ l.drop l.length).length = l.length := by simp
    rw [hlen, if_neg (by simp [ltI])]
    simp)
  simpa [marks] using this

/-- A source that can be drawn from. -/
structure SrcOk (s : T138) (n : Int) : Prop where
  bytes : ∀ x ∈ s.code_, 0 ≤ x ∧ x ≤ 255
  len : s.code_.length ≤ 1048576
  at0 : 0 ≤ s.at_
  at1 : s.at_ ≤ n

theorem wrapU {n : Int} (h1 : 0 ≤ n) (h2 : n < 18446744073709551616) : IntKind.u64.wrap n = n := by
  unfold IntKind.wrap
  have e1 : (2 ^ IntKind.u64.bits : Int) = 18446744073709551616 := by decide
  have e3 : IntKind.u64.signed = false := by decide
  simp only [e1, e3, Bool.false_and, Bool.false_eq_true, if_false]
  omega
theorem and255 (x : Int) : 0 ≤ cI .i64 (andI .u64 x 255) ∧ cI .i64 (andI .u64 x 255) ≤ 255 := by
  have h : (BitVec.ofInt IntKind.u64.bits x &&& BitVec.ofInt IntKind.u64.bits 255).toNat ≤ 255 := by
    rw [BitVec.toNat_and]
    refine Nat.le_trans Nat.and_le_right ?_
    decide
  unfold andI
  generalize (BitVec.ofInt IntKind.u64.bits x &&& BitVec.ofInt IntKind.u64.bits 255).toNat = m at h
  have h1 : IntKind.u64.wrap (m : Int) = m := wrapU (by omega) (by omega)
  rw [h1, cI64 (by omega) (by omega)]
  omega

theorem next_eq {s : T138} {n : Int} (h : SrcOk s n) (hn : n ≤ 1048576) : ∃ v s', g104 s = some (v, s') ∧ 0 ≤ v ∧ v ≤ 255 ∧ SrcOk s' (n + 1) := by
  have h1 := h.at0
  have h2 := h.at1
  have h3 := h.len
  have e1 : aI .i64 s.at_ 1 = s.at_ + 1 := aI64 (by omega) (by omega)
  unfold g104
  rw [e1]
  have hsh : ∀ x, shrI .u64 x 40 = some (x.fdiv (2 ^ 40)) := fun x => rfl
  by_cases hlt : s.at_ < s.code_.length
  · have hl : s.at_.toNat < s.code_.length := by omega
    rw [if_pos (by simp [ltI]; omega), idx_of h1 hl, Option.bind_some, if_pos (by simp [leI]; omega)]
    have hb := h.bytes _ (List.getElem_mem hl)
    refine ⟨_, _, rfl, ?_, ?_, h.bytes, h.len, by simp only; omega, by simp only; omega⟩
    · rw [cI64 (by omega) (by omega)]; exact hb.1
    · rw [cI64 (by omega) (by omega)]; exact hb.2
  · rw [if_neg (by simp [ltI]; omega)]
    by_cases hle : s.at_ + 1 ≤ s.code_.length
    · omega
    · rw [if_neg (by simp [leI]; omega), hsh, Option.bind_some]
      exact ⟨_, _, rfl, (and255 _).1, (and255 _).2, h.bytes, h.len, by simp only; omega, by simp only; omega⟩

theorem pick_eq {s : T138} {n : Int} (h : SrcOk s n) (hn : n ≤ 1048576) {k : Int} (k1 : 1 ≤ k) (k2 : k ≤ 200) : ∃ v s', g83 s k = some (v, s') ∧ 0 ≤ v ∧ v < k ∧ SrcOk s' (n + 1) := by
  unfold g83
  by_cases hk : k ≤ 1
  · rw [if_pos (by simp [leI]; omega)]
    exact ⟨_, _, rfl, by omega, by omega, h.bytes, h.len, h.at0, by have := h.at1; omega⟩
  · obtain ⟨v, s', e, v0, v1, hs⟩ := next_eq h hn
    rw [if_neg (by simp [leI]; omega), e, Option.bind_some, if_neg (by simp [ltI]; omega)]
    have : rI .i64 v k = some (v.tmod k) := by unfold rI; rw [if_neg (by omega)]
    rw [this, Option.bind_some]
    refine ⟨_, _, rfl, ?_, ?_, hs⟩
    · exact Int.tmod_nonneg _ v0
    · exact Int.tmod_lt_of_pos _ (by omega)

theorem draw_loop {x : Int} {s : T138} {n : Int} (hx0 : 0 ≤ x) (hx : x ≤ 5) (h : SrcOk s n) (hn : n ≤ 1000) :
    ∃ c a d l m, loopO g35_L1 (x, s.code_, s.at_, s.seed_, [], []) = some (c, a, d, l, m) ∧ (l.length : Int) = x ∧ m.length = l.length ∧ (∀ y ∈ l, 0 ≤ y ∧ y ≤ 29) ∧ ∀ y ∈ m, 0 ≤ y ∧ y ≤ 6 := by
  obtain ⟨r, e, h1, h2, h3, h4⟩ := loopO_rule (body := g35_L1) (fun z => z.1.toNat)
    (fun z => 0 ≤ z.1 ∧ z.1 ≤ 5 ∧ (z.2.2.2.2.1.length : Int) = x - z.1 ∧ z.2.2.2.2.2.length = z.2.2.2.2.1.length ∧ (∀ y ∈ z.2.2.2.2.1, 0 ≤ y ∧ y ≤ 29) ∧ (∀ y ∈ z.2.2.2.2.2, 0 ≤ y ∧ y ≤ 6) ∧ SrcOk ⟨z.2.1, z.2.2.1, z.2.2.2.1⟩ (1010 - 2 * z.1))
    (fun r => (r.2.2.2.1.length : Int) = x ∧ r.2.2.2.2.length = r.2.2.2.1.length ∧ (∀ y ∈ r.2.2.2.1, 0 ≤ y ∧ y ≤ 29) ∧ ∀ y ∈ r.2.2.2.2, 0 ≤ y ∧ y ≤ 6)
    (fun z ⟨a1, a2, a3, a4, a5, a6, a7⟩ => by
      obtain ⟨k, c, a, d, l, m⟩ := z
      simp only at a1 a2 a3 a4 a5 a6 a7
      rw [g35_L1]
      by_cases hk : 0 < k
      · rw [if_pos (by simp [ltI]; omega)]
        obtain ⟨v, s', e, v0, v1, hs⟩ := pick_eq a7 (by omega) (k := 30) (by omega) (by omega)
        rw [e, Option.bind_some]
        simp only
        rw [appK_of (by simp; omega) (by simp; omega), Option.bind_some]
        obtain ⟨v', s'', e', v0', v1', hs'⟩ := pick_eq hs (by omega) (k := 7) (by omega) (by omega)
        rw [e', Option.bind_some]
        simp only
        rw [appK_of (by simp; omega) (by simp; omega), Option.bind_some, sI64 (by omega) (by omega)]
        left
        refine ⟨_, rfl, ⟨by simp only; omega, by simp only; omega, by simp; omega, by simp; omega, ?_, ?_, hs'.bytes, hs'.len, hs'.at0, by have := hs'.at1; simp only; omega⟩, by simp only; omega⟩
        · intro y hy
          rcases List.mem_append.1 hy with hy | hy
          · exact a5 y hy
          · rw [List.mem_singleton.1 hy]; omega
        · intro y hy
          rcases List.mem_append.1 hy with hy | hy
          · exact a6 y hy
          · rw [List.mem_singleton.1 hy]; omega
      · rw [if_neg (by simp [ltI]; omega)]
        right
        exact ⟨_, rfl, by simp only; omega, a4, a5, a6⟩) (s := (x, s.code_, s.at_, s.seed_, [], [])) ⟨hx0, hx, by simp, rfl, by simp, by simp, h.bytes, h.len, h.at0, by have := h.at1; simp only; omega⟩
  obtain ⟨c, a, d, l, m⟩ := r
  exact ⟨c, a, d, l, m, e, h1, h2, h3, h4⟩

/-- A season that is drawn is valid, and small. -/
theorem season_eq {code : List Int} (hb : ∀ x ∈ code, 0 ≤ x ∧ x ≤ 255) (hl : code.length ≤ 1048576) : ∃ s, g35 code = some s ∧ Valid s ∧ ∀ x ∈ s.need_, x ≤ 29 := by
  have h0 : SrcOk ⟨code, 0, 0⟩ 0 := ⟨hb, hl, by simp, by simp⟩
  unfold g35
  obtain ⟨v1, s1, e1, a1, b1, h1⟩ := pick_eq h0 (by omega) (k := 5) (by omega) (by omega)
  rw [e1, Option.bind_some]
  obtain ⟨v2, s2, e2, a2, b2, h2⟩ := pick_eq h1 (by omega) (k := 8) (by omega) (by omega)
  simp only
  rw [e2, Option.bind_some]
  obtain ⟨v3, s3, e3, a3, b3, h3⟩ := pick_eq h2 (by omega) (k := 25) (by omega) (by omega)
  simp only
  rw [e3, Option.bind_some]
  obtain ⟨v4, s4, e4, a4, b4, h4⟩ := pick_eq h3 (by omega) (k := (([0, 0, 10, 25, 50, 100] : List Nat).length : Int)) (by simp) (by simp)
  simp only
  rw [e4, Option.bind_some]
  have hv4 : v4.toNat < ([0, 0, 10, 25, 50, 100] : List Int).length := by simp at b4 ⊢; omega
  simp only
  rw [idx_of a4 hv4, Option.bind_some]
  have hloss : 0 ≤ ([0, 0, 10, 25, 50, 100] : List Int)[v4.toNat] ∧ ([0, 0, 10, 25, 50, 100] : List Int)[v4.toNat] ≤ 100 := by
    have : ∀ y ∈ ([0, 0, 10, 25, 50, 100] : List Int), 0 ≤ y ∧ y ≤ 100 := by decide
    exact this _ (List.getElem_mem hv4)
  generalize ([0, 0, 10, 25, 50, 100] : List Int)[v4.toNat] = loss at hloss
  have hst : aI .i64 v3 1 = v3 + 1 := aI64 (by omega) (by omega)
  obtain ⟨v5, s5, e5, a5, b5, h5⟩ := pick_eq h4 (by omega) (k := v3 + 1) (by omega) (by omega)
  rw [hst, e5, Option.bind_some]
  obtain ⟨v6, s6, e6, a6, b6, h6⟩ := pick_eq h5 (by omega) (k := 5) (by omega) (by omega)
  simp only
  rw [e6, Option.bind_some]
  simp only
  rw [aI64 (a := 1) (b := v6) (by omega) (by omega)]
  obtain ⟨c, a, d, l, m, e, l1, l2, l3, l4⟩ := draw_loop (x := 1 + v6) (by omega) (by omega) h6 (by omega)
  rw [e, Option.bind_some]
  unfold g35_j1
  refine ⟨_, rfl, ⟨by simp only; omega, by simp only; omega, l2, fun x hx => by have := l3 x hx; omega, fun x hx => by have := l4 x hx; omega, ?_, ?_, ?_, ?_, a3, by simp only; omega, a5, by simp only; omega, hloss.1, hloss.2⟩, fun x hx => (l3 x hx).2⟩
  · simp only; rw [aI64 (by omega) (by omega)]; omega
  · simp only; rw [aI64 (by omega) (by omega)]; omega
  · simp only; rw [aI64 (by omega) (by omega)]; omega
  · simp only; rw [aI64 (by omega) (by omega)]; omega

/-! The greedy plan -/
theorem greedy_eq {s : T29} (h : Small s) : ∃ r, g41 s = some r ∧ g40 s = some r ∧ r.1.length ≤ 1048576 := by
  obtain ⟨b1, e1, i1⟩ := g55_eq h
  obtain ⟨b2, e2, i2⟩ := g39_eq h
  unfold g41 g40
  rw [e1, e2, Option.bind_some, Option.bind_some]
  by_cases hv : Valid s
  rotate_left
  · have : b1 = false := by rw [Bool.eq_false_iff]; exact fun hb => hv (i1.1 hb)
    have : b2 = false := by rw [Bool.eq_false_iff]; exact fun hb => hv (i2.1 hb)
    subst b1 b2
    exact ⟨([], 1), rfl, rfl, by simp⟩
  rw [i1.2 hv, i2.2 hv]
  have n2 := hv.n2
  obtain ⟨r, r', h1, h2, h3, h4⟩ := loopO_rel (b1 := g41_L1 s) (b2 := g40_L1 s) (fun x => s.need_.length - x.2.1.toNat)
    (fun x y => x = y ∧ ∃ i : Nat, x.2.1 = i ∧ i ≤ s.need_.length ∧ 0 ≤ x.1 ∧ x.1 ≤ s.store_ ∧ x.2.2.length = i)
    (fun r r' => r = r' ∧ match r with | .inl l => l.length ≤ 1048576 | .inr p => p.1.length ≤ 1048576)
    (fun x y ⟨hxy, i, hi, hle, hs0, hs1, hlen⟩ => by
      subst hxy
      obtain ⟨at_, k, l⟩ := x
      simp only at hi hle hs0 hs1 hlen
      subst hi
      rw [g41_L1, g40_L1]
      by_cases hlt : i < s.need_.length
      · rw [if_pos (by simp [ltI]; omega), if_pos (by simp [ltI]; omega), g87_eq hv hlt hs0 hs1, g86_eq hv hlt hs0 hs1]
        cases hf : few s i at_ with
        | none => right; exact ⟨.inr ([], 6), .inr ([], 6), by simp [ltI], by simp, rfl, by simp⟩
        | some p =>
          obtain ⟨f1, f2, f3, f4, _⟩ := few_some hv hf
          left
          refine ⟨(p.2, ((i + 1 : Nat) : Int), l ++ [p.1]), (p.2, ((i + 1 : Nat) : Int), l ++ [p.1]), ?_, ?_, ⟨rfl, i + 1, rfl, by omega, f3, f4, by simp [hlen]⟩, by simp only; omega⟩
          · simp only [Option.bind_some]
            rw [if_neg (by simp [ltI]; omega), appK_of (by simp; omega) (by simp; omega), Option.bind_some, succI (by omega)]
          · simp only [Option.bind_some]
            rw [if_neg (by simp), appK_of (by simp; omega) (by simp; omega), Option.bind_some, succI (by omega)]
      · right
        refine ⟨.inl l, .inl l, ?_, ?_, rfl, by simp only; omega⟩
        · rw [if_neg (by simp [ltI]; omega)]
        · rw [if_neg (by simp [ltI]; omega)]) (s := (s.first_, 0, [])) (s' := (s.first_, 0, [])) ⟨rfl, 0, rfl, by omega, hv.first0, hv.first1, rfl⟩
  subst h3
  rw [h1, h2]
  cases r with
  | inl l => exact ⟨(l, 0), rfl, rfl, h4⟩
  | inr p => exact ⟨p, rfl, rfl, h4⟩

/-- A plan has a number for each slot, within bounds. -/
def Good (s : T29) (plan : List Int) : Prop := plan.length = s.need_.length ∧ ∀ x ∈ plan, 0 ≤ x ∧ x ≤ s.most_

theorem g88_eq {s : T29} {plan : List Int} (h : Small s) (hp : plan.length ≤ 1048576) : ∃ c, g88 s plan = some c ∧ (¬ Valid s → c = 1) ∧ (Valid s → ¬ Good s plan → c = 2) ∧ (Valid s → Good s plan → c = 0) := by
  obtain ⟨b2, e2, i2⟩ := g39_eq h
  unfold g88
  rw [e2, Option.bind_some]
  by_cases hv : Valid s
  rotate_left
  · have : b2 = false := by rw [Bool.eq_false_iff]; exact fun hb => hv (i2.1 hb)
    subst b2
    exact ⟨1, rfl, fun _ => rfl, fun h => absurd h hv, fun h => absurd h hv⟩
  rw [i2.2 hv]
  by_cases hl : plan.length = s.need_.length
  rotate_left
  · rw [if_neg (by simp), if_pos (by simp [eqI]; omega)]
    exact ⟨2, rfl, fun h => absurd hv h, fun _ _ => rfl, fun _ h => absurd h.1 hl⟩
  rw [if_neg (by simp), if_neg (by simp [eqI]; omega)]
  have hL := loop_scan (body := g88_L1 plan s) (n := plan.length) (fun i => if h : i < plan.length then (if 0 ≤ plan[i] ∧ plan[i] ≤ s.most_ then none else some (.inr 2)) else none) (.inl ()) (fun i hi => by
    rw [g88_L1, if_pos (by simp [ltI]; omega), idx_nat hi, Option.bind_some, succI (by omega), dif_pos hi]
    by_cases hx : 0 ≤ plan[i] ∧ plan[i] ≤ s.most_
    · rw [if_pos hx, if_neg (by simp [ltI]; omega)]
    · rw [if_neg hx, if_pos (by simp [ltI]; omega)]) (by
    rw [g88_L1, if_neg (by simp [ltI])])
  rw [hL]
  cases hf : (List.range plan.length).findSome? (fun i => if h : i < plan.length then (if 0 ≤ plan[i] ∧ plan[i] ≤ s.most_ then none else some (.inr 2 : Unit ⊕ Int)) else none) with
  | none =>
    refine ⟨0, rfl, fun h => absurd hv h, fun _ h => absurd ⟨hl, fun x hx => ?_⟩ h, fun _ _ => rfl⟩
    obtain ⟨i, hi, rfl⟩ := List.mem_iff_getElem.1 hx
    have := range_none.1 hf i hi
    rw [dif_pos hi] at this
    split at this
    · assumption
    · cases this
  | some r =>
    obtain ⟨i, hi, h1, _⟩ := range_some hf
    rw [dif_pos hi] at h1
    split at h1
    · cases h1
    · rename_i hn
      cases h1
      exact ⟨2, rfl, fun h => absurd hv h, fun _ _ => rfl, fun _ h => absurd (h.2 _ (List.getElem_mem hi)) hn⟩

theorem repair_eq {s : T29} {plan : List Int} (h : Small s) (hp : plan.length ≤ 1048576) : ∃ r, g43 s plan = some r ∧ g42 s plan = some r ∧ r.1.length ≤ 1048576 := by
  obtain ⟨b1, e1, i1⟩ := g55_eq h
  obtain ⟨b2, e2, i2⟩ := g90_eq (m := s.most_) hp
  obtain ⟨c, e3, c1, c2, c3⟩ := g88_eq h hp
  unfold g43 g42
  rw [e1, e3, Option.bind_some, Option.bind_some]
  by_cases hv : Valid s
  rotate_left
  · have : b1 = false := by rw [Bool.eq_false_iff]; exact fun hb => hv (i1.1 hb)
    subst b1
    rw [c1 hv]
    exact ⟨([], 0, 1), rfl, rfl, by simp⟩
  rw [i1.2 hv]
  by_cases hg : Good s plan
  rotate_left
  · have hw : (if (!eqI (plan.length : Int) (s.need_.length : Int)) = true then some true else (g90 plan s.most_).bind fun r4 => some (!r4)) = some true := by
      by_cases hl : plan.length = s.need_.length
      · rw [if_neg (by simp [eqI]; omega), e2]
        have : b2 = false := by rw [Bool.eq_false_iff]; exact fun hb => hg ⟨hl, i2.1 hb⟩
        rw [this]; rfl
      · rw [if_pos (by simp [eqI]; omega)]
    rw [if_neg (by simp), hw, c2 hv hg]
    exact ⟨([], 0, 2), rfl, rfl, by simp⟩
  have hw : (if (!eqI (plan.length : Int) (s.need_.length : Int)) = true then some true else (g90 plan s.most_).bind fun r4 => some (!r4)) = some false := by
    rw [if_neg (by simp [eqI]; have := hg.1; omega), e2, i2.2 hg.2]; rfl
  rw [if_neg (by simp), hw, c3 hv hg, Option.bind_some, if_neg (by simp), if_neg (by simp [eqI])]
  have n2 := hv.n2
  have hgl := hg.1
  obtain ⟨r, r', h1, h2, h3, h4⟩ := loopO_rel (b1 := g43_L1 plan s) (b2 := g42_L1 plan s) (fun x => plan.length - x.2.2.1.toNat)
    (fun x y => x = y ∧ ∃ i : Nat, x.2.2.1 = i ∧ i ≤ plan.length ∧ 0 ≤ x.1 ∧ x.1 ≤ s.store_ ∧ x.2.2.2.length = i ∧ 0 ≤ x.2.1 ∧ x.2.1 ≤ i)
    (fun r r' => r = r' ∧ match r with | .inl p => p.2.length ≤ 1048576 | .inr p => p.1.length ≤ 1048576)
    (fun x y ⟨hxy, i, hi, hle, hs0, hs1, hlen, ho0, ho1⟩ => by
      subst hxy
      obtain ⟨at_, o, k, l⟩ := x
      simp only at hi hle hs0 hs1 hlen ho0 ho1
      subst hi
      rw [g43_L1, g42_L1]
      by_cases hlt : i < plan.length
      · obtain ⟨x1, x2⟩ := hg.2 _ (List.getElem_mem hlt)
        rw [if_pos (by simp [ltI]; omega), if_pos (by simp [ltI]; omega), idx_nat hlt, Option.bind_some, Option.bind_some, g91_eq hv (by omega) hs0 hs1 x1 x2, g89_eq hv (by omega) hs0 hs1 x1 x2]
        cases hf : aft s i at_ plan[i] with
        | none =>
          simp only [Option.bind_some]
          rw [if_pos (by simp [ltI]), if_pos (by simp), g87_eq hv (by omega) hs0 hs1, g86_eq hv (by omega) hs0 hs1]
          cases hq : few s i at_ with
          | none => right; exact ⟨.inr ([], 0, 6), .inr ([], 0, 6), by simp [g43_j2, ltI], by simp, rfl, by simp⟩
          | some p =>
            obtain ⟨f1, f2, f3, f4, _⟩ := few_some hv hq
            left
            refine ⟨(p.2, o + 1, ((i + 1 : Nat) : Int), l ++ [p.1]), (p.2, o + 1, ((i + 1 : Nat) : Int), l ++ [p.1]), ?_, ?_, ⟨rfl, i + 1, rfl, by omega, f3, f4, by simp [hlen], by simp only; omega, by simp only; omega⟩, by simp only; omega⟩
            · simp only [Option.bind_some, g43_j2]
              rw [if_neg (by simp [ltI]; omega), appK_of (by simp; omega) (by simp; omega), Option.bind_some, succI (by omega), aI64 (by omega) (by omega)]
            · simp only [Option.bind_some]
              rw [if_neg (by simp), appK_of (by simp; omega) (by simp; omega), Option.bind_some, succI (by omega), aI64 (by omega) (by omega)]
        | some v =>
          obtain ⟨f1, f2⟩ := aft_range hv hf
          simp only [Option.bind_some]
          rw [if_neg (by simp [ltI]; omega), if_neg (by simp), if_neg (by simp)]
          left
          refine ⟨(v, o, ((i + 1 : Nat) : Int), l ++ [plan[i]]), (v, o, ((i + 1 : Nat) : Int), l ++ [plan[i]]), ?_, ?_, ⟨rfl, i + 1, rfl, by omega, f1, f2, by simp [hlen], ho0, by simp only; omega⟩, by simp only; omega⟩
          · simp only [g43_j2]
            rw [if_neg (by simp [ltI]; omega), appK_of (by simp; omega) (by simp; omega), Option.bind_some, succI (by omega)]
          · rw [appK_of (by simp; omega) (by simp; omega), Option.bind_some, succI (by omega)]
      · right
        refine ⟨.inl (o, l), .inl (o, l), ?_, ?_, rfl, by simp only; omega⟩
        · rw [if_neg (by simp [ltI]; omega)]
        · rw [if_neg (by simp [ltI]; omega)]) (s := (s.first_, 0, 0, [])) (s' := (s.first_, 0, 0, [])) ⟨rfl, 0, rfl, by omega, hv.first0, hv.first1, rfl, by simp, by simp⟩
  subst h3
  rw [h1, h2]
  cases r with
  | inl l => exact ⟨(l.2, l.1, 0), rfl, rfl, h4⟩
  | inr p => exact ⟨p, rfl, rfl, h4⟩


/-! ### Stores, costs and repairs, told by the plan alone -/
def path (s : T29) : Nat → Int → List Int → Option (List Int)
  | _, _, [] => some []
  | i, st, x :: xs => match aft s i st x with
    | none => none
    | some v => (path s (i + 1) v xs).map (v :: ·)
theorem path_cons (s : T29) (i : Nat) (st x : Int) (xs : List Int) : path s i st (x :: xs) = match aft s i st x with | none => none | some v => (path s (i + 1) v xs).map (v :: ·) := rfl
def rep (s : T29) : Nat → Int → List Int → Option (Int × List Int)
  | _, _, [] => some (0, [])
  | i, st, x :: xs => match aft s i st x with
    | some v => (rep s (i + 1) v xs).map fun r => (r.1, x :: r.2)
    | none => match few s i st with
      | none => none
      | some p => (rep s (i + 1) p.2 xs).map fun r => (r.1 + 1, p.1 :: r.2)
theorem rep_cons (s : T29) (i : Nat) (st x : Int) (xs : List Int) : rep s i st (x :: xs) = match aft s i st x with
    | some v => (rep s (i + 1) v xs).map fun r => (r.1, x :: r.2)
    | none => match few s i st with
      | none => none
      | some p => (rep s (i + 1) p.2 xs).map fun r => (r.1 + 1, p.1 :: r.2) := rfl
def gre (s : T29) : Nat → Nat → Int → Option (List Int)
  | 0, _, _ => some []
  | n + 1, i, st => match few s i st with
    | none => none
    | some p => (gre s n (i + 1) p.2).map (p.1 :: ·)
theorem gre_succ (s : T29) (n i : Nat) (st : Int) : gre s (n + 1) i st = match few s i st with | none => none | some p => (gre s n (i + 1) p.2).map (p.1 :: ·) := rfl
def diff : List Int → List Int → Int
  | x :: xs, y :: ys => (if x = y then 0 else 1) + diff xs ys
  | _, _ => 0
theorem diff_self : ∀ l : List Int, diff l l = 0
  | [] => rfl
  | x :: xs => by simp [diff, diff_self xs]
theorem diff_nonneg : ∀ l m : List Int, 0 ≤ diff l m ∧ diff l m ≤ l.length
  | [], m => by cases m <;> simp [diff]
  | x :: xs, [] => by simp [diff]; omega
  | x :: xs, y :: ys => by
    have := diff_nonneg xs ys
    simp only [diff, List.length_cons]
    split <;> omega
theorem diff_zero : ∀ {l m : List Int}, l.length = m.length → diff l m = 0 → l = m
  | [], [], _, _ => rfl
  | [], y :: ys, h, _ => by simp at h
  | x :: xs, [], h, _ => by simp at h
  | x :: xs, y :: ys, h, e => by
    have h1 := diff_nonneg xs ys
    simp only [diff] at e
    split at e
    · rename_i hxy
      rw [hxy, diff_zero (l := xs) (m := ys) (by simpa using h) (by omega)]
    · omega
theorem path_len {s : T29} : ∀ {i : Nat} {st : Int} {l ss : List Int}, path s i st l = some ss → ss.length = l.length
  | i, st, [], ss, h => by cases h; rfl
  | i, st, x :: xs, ss, h => by
    rw [path_cons] at h
    split at h
    · cases h
    · obtain ⟨t, ht, rfl⟩ := Option.map_eq_some_iff.1 h
      simp [path_len ht]
theorem path_rep {s : T29} : ∀ {i : Nat} {st : Int} {l ss : List Int}, path s i st l = some ss → rep s i st l = some (0, l)
  | i, st, [], ss, h => rfl
  | i, st, x :: xs, ss, h => by
    rw [path_cons] at h
    rw [rep_cons]
    split at h
    · cases h
    · rename_i v hv
      obtain ⟨t, ht, rfl⟩ := Option.map_eq_some_iff.1 h
      simp only [hv, path_rep ht]
      rfl
theorem rep_path {s : T29} (hv : Valid s) : ∀ {i : Nat} {st : Int} {plan l : List Int} {t : Int}, rep s i st plan = some (t, l) → (∀ x ∈ plan, 0 ≤ x ∧ x ≤ s.most_) →
    (∃ ss, path s i st l = some ss) ∧ l.length = plan.length ∧ (∀ x ∈ l, 0 ≤ x ∧ x ≤ s.most_) ∧ t = diff l plan
  | i, st, [], l, t, h, hb => by cases h; exact ⟨⟨_, rfl⟩, rfl, by simp, rfl⟩
  | i, st, x :: xs, l, t, h, hb => by
    rw [rep_cons] at h
    cases ha : aft s i st x with
    | some v =>
      rw [ha] at h
      obtain ⟨r, hr, e⟩ := Option.map_eq_some_iff.1 h
      obtain ⟨t', l'⟩ := r
      cases e
      obtain ⟨⟨ss, p1⟩, p2, p3, p4⟩ := rep_path hv hr (fun y hy => hb y (by simp [hy]))
      refine ⟨⟨v :: ss, by rw [path_cons, ha]; simp [p1]⟩, by simp [p2], ?_, by simp [diff, p4]⟩
      intro y hy
      rcases List.mem_cons.1 hy with rfl | hy
      · exact hb _ (by simp)
      · exact p3 y hy
    | none =>
      rw [ha] at h
      simp only at h
      cases hf : few s i st with
      | none => rw [hf] at h; cases h
      | some p =>
        rw [hf] at h
        obtain ⟨f1, f2, f3, f4, f5⟩ := few_some hv hf
        obtain ⟨r, hr, e⟩ := Option.map_eq_some_iff.1 h
        obtain ⟨t', l'⟩ := r
        cases e
        obtain ⟨⟨ss, p1⟩, p2, p3, p4⟩ := rep_path hv hr (fun y hy => hb y (by simp [hy]))
        have hne : p.1 ≠ x := fun e => by rw [e, ha] at f5; cases f5
        refine ⟨⟨p.2 :: ss, by rw [path_cons, f5]; simp [p1]⟩, by simp [p2], ?_, by simp only [diff]; rw [if_neg hne, ← p4]; omega⟩
        intro y hy
        rcases List.mem_cons.1 hy with rfl | hy
        · exact ⟨f1, f2⟩
        · exact p3 y hy
theorem gre_path {s : T29} (hv : Valid s) : ∀ {n i : Nat} {st : Int} {l : List Int}, gre s n i st = some l → (∃ ss, path s i st l = some ss) ∧ l.length = n ∧ ∀ x ∈ l, 0 ≤ x ∧ x ≤ s.most_
  | 0, i, st, l, h => by cases h; exact ⟨⟨_, rfl⟩, rfl, by simp⟩
  | n + 1, i, st, l, h => by
    rw [gre_succ] at h
    cases hf : few s i st with
    | none => rw [hf] at h; cases h
    | some p =>
      rw [hf] at h
      obtain ⟨f1, f2, f3, f4, f5⟩ := few_some hv hf
      obtain ⟨l', hr, rfl⟩ := Option.map_eq_some_iff.1 h
      obtain ⟨⟨ss, p1⟩, p2, p3⟩ := gre_path hv hr
      refine ⟨⟨p.2 :: ss, by rw [path_cons, f5]; simp [p1]⟩, by simp [p2], ?_⟩
      intro y hy
      rcases List.mem_cons.1 hy with rfl | hy
      · exact ⟨f1, f2⟩
      · exact p3 y hy

theorem small_of {s : T29} (hv : Valid s) : Small s := by
  have := hv.n2; have := hv.pl
  exact ⟨by omega, by omega⟩
theorem code88 {s : T29} {plan : List Int} (hv : Valid s) (hg : Good s plan) : g88 s plan = some 0 := by
  have := hv.n2
  obtain ⟨c, e, _, _, h⟩ := g88_eq (small_of hv) (plan := plan) (by have := hg.1; omega)
  rw [e, h hv hg]

theorem stores46 {s : T29} {plan : List Int} (hv : Valid s) (hg : Good s plan) : g46 s plan = some (match path s 0 s.first_ plan with | some l => (l, 0) | none => ([], 4)) := by
  have n2 := hv.n2
  have hgl := hg.1
  unfold g46
  rw [code88 hv hg, Option.bind_some, if_neg (by simp [eqI])]
  obtain ⟨r, e, hr⟩ := loopO_rule (body := g46_L1 plan s) (fun x => plan.length - x.2.1.toNat)
    (fun x => ∃ i : Nat, x.2.1 = i ∧ i ≤ plan.length ∧ 0 ≤ x.1 ∧ x.1 ≤ s.store_ ∧ x.2.2.length = i ∧ (path s i x.1 (plan.drop i)).map (x.2.2 ++ ·) = path s 0 s.first_ plan)
    (fun r => r = match path s 0 s.first_ plan with | some l => .inl l | none => .inr ([], 4))
    (fun x ⟨i, hi, hle, hs0, hs1, hlen, hp⟩ => by
      obtain ⟨at_, k, l⟩ := x
      simp only at hi hle hs0 hs1 hlen hp
      subst hi
      rw [g46_L1]
      by_cases hlt : i < plan.length
      · obtain ⟨x1, x2⟩ := hg.2 _ (List.getElem_mem hlt)
        rw [if_pos (by simp [ltI]; omega), idx_nat hlt, Option.bind_some, g89_eq hv (by omega) hs0 hs1 x1 x2]
        rw [List.drop_eq_getElem_cons hlt, path_cons] at hp
        cases hf : aft s i at_ plan[i] with
        | none =>
          rw [hf] at hp
          right
          refine ⟨.inr ([], 4), by simp, ?_⟩
          rw [← hp]
          rfl
        | some v =>
          rw [hf] at hp
          obtain ⟨f1, f2⟩ := aft_range hv hf
          left
          refine ⟨(v, ((i + 1 : Nat) : Int), l ++ [v]), ?_, ⟨i + 1, rfl, by omega, f1, f2, by simp [hlen], ?_⟩, by simp only; omega⟩
          · simp only [Option.bind_some]
            rw [if_neg (by simp), appK_of (by simp; omega) (by simp; omega), Option.bind_some, succI (by omega)]
          · rw [← hp]
            simp [Option.map_map, Function.comp_def]
      · right
        refine ⟨.inl l, ?_, ?_⟩
        · rw [if_neg (by simp [ltI]; omega)]
        · rw [List.drop_of_length_le (by omega)] at hp
          rw [← hp]
          simp [path]) (s := (s.first_, 0, [])) ⟨0, rfl, by omega, hv.first0, hv.first1, rfl, by simp⟩
  rw [e, hr]
  cases path s 0 s.first_ plan with
  | some l => rfl
  | none => rfl

def costTo (s : T29) (plan : List Int) : Nat → Int
  | 0 => 0
  | i + 1 => costTo s plan i + pr s i * plan.getD i 0
theorem cost_step {s : T29} {plan : List Int} (hv : Valid s) (hg : Good s plan) {i : Nat} (h : i < plan.length) : 0 ≤ pr s i * plan.getD i 0 ∧ pr s i * plan.getD i 0 ≤ 20000 ∧ mI .i64 (pr s i) (plan.getD i 0) = pr s i * plan.getD i 0 ∧ plan.getD i 0 = plan[i] := by
  have hgl := hg.1
  obtain ⟨b1, b2⟩ := pr_bnd hv (i := i) (by omega)
  have hd : plan.getD i 0 = plan[i] := by simp [List.getD, h]
  obtain ⟨x1, x2⟩ := hg.2 _ (List.getElem_mem h)
  have := hv.most1
  obtain ⟨m1, m2⟩ := mul_bnd (A := 1000) (B := 20) b1 b2 (show 0 ≤ plan.getD i 0 by omega) (by omega)
  exact ⟨m1, by omega, mI64 (by omega) (by omega), hd⟩
theorem cost_bnd {s : T29} {plan : List Int} (hv : Valid s) (hg : Good s plan) : ∀ i, i ≤ plan.length → 0 ≤ costTo s plan i ∧ costTo s plan i ≤ 20000 * i
  | 0, _ => by simp [costTo]
  | i + 1, h => by
    obtain ⟨c1, c2, _⟩ := cost_step hv hg (i := i) (by omega)
    have := cost_bnd hv hg i (by omega)
    simp only [costTo]
    omega
theorem cost45 {s : T29} {plan : List Int} (hv : Valid s) (hg : Good s plan) : g45 s plan = some (match path s 0 s.first_ plan with | some _ => (costTo s plan plan.length, 0) | none => (0, 4)) := by
  have n2 := hv.n2
  have hgl := hg.1
  have hpl := hv.pl
  unfold g45
  rw [stores46 hv hg, Option.bind_some]
  cases path s 0 s.first_ plan with
  | none => rfl
  | some l =>
    simp only
    rw [if_neg (by simp [eqI])]
    have := loop_run (body := g45_L1 plan s) (fun i => (costTo s plan i, (i : Int))) plan.length (fun i hi => by
      obtain ⟨c1, c2, c3, c4⟩ := cost_step hv hg hi
      have := cost_bnd hv hg i (by omega)
      rw [g45_L1, if_pos (by simp [ltI]; omega), idx_nat hi, Option.bind_some, idx_nat (by omega), Option.bind_some, pr_get (by omega), ← c4, c3, aI64 (by omega) (by omega), succI (by omega)]
      rfl) (r := costTo s plan plan.length) (by
      rw [g45_L1, if_neg (by simp [ltI])])
    have h0 : loopO (g45_L1 plan s) (0, 0) = some (costTo s plan plan.length) := by simpa [costTo] using this
    rw [h0]
    rfl

theorem repair42 {s : T29} {plan : List Int} (hv : Valid s) (hg : Good s plan) : g42 s plan = some (match rep s 0 s.first_ plan with | some r => (r.2, r.1, 0) | none => ([], 0, 6)) := by
  have n2 := hv.n2
  have hgl := hg.1
  unfold g42
  rw [code88 hv hg, Option.bind_some, if_neg (by simp [eqI])]
  obtain ⟨r, e, hr⟩ := loopO_rule (body := g42_L1 plan s) (fun x => plan.length - x.2.2.1.toNat)
    (fun x => ∃ i : Nat, x.2.2.1 = i ∧ i ≤ plan.length ∧ 0 ≤ x.1 ∧ x.1 ≤ s.store_ ∧ x.2.2.2.length = i ∧ 0 ≤ x.2.1 ∧ x.2.1 ≤ i ∧ (rep s i x.1 (plan.drop i)).map (fun r => (x.2.1 + r.1, x.2.2.2 ++ r.2)) = rep s 0 s.first_ plan)
    (fun r => r = match rep s 0 s.first_ plan with | some r => .inl r | none => .inr ([], 0, 6))
    (fun x ⟨i, hi, hle, hs0, hs1, hlen, ht0, ht1, hp⟩ => by
      obtain ⟨at_, o, k, l⟩ := x
      simp only at hi hle hs0 hs1 hlen ht0 ht1 hp
      subst hi
      rw [g42_L1]
      by_cases hlt : i < plan.length
      · obtain ⟨x1, x2⟩ := hg.2 _ (List.getElem_mem hlt)
        rw [if_pos (by simp [ltI]; omega), idx_nat hlt, Option.bind_some, g89_eq hv (by omega) hs0 hs1 x1 x2]
        rw [List.drop_eq_getElem_cons hlt, rep_cons] at hp
        cases hf : aft s i at_ plan[i] with
        | none =>
          rw [hf] at hp
          simp only [Option.bind_some] at hp ⊢
          rw [if_pos (by simp), g86_eq hv (by omega) hs0 hs1]
          cases hq : few s i at_ with
          | none =>
            rw [hq] at hp
            right
            refine ⟨.inr ([], 0, 6), by simp, ?_⟩
            rw [← hp]
            rfl
          | some p =>
            rw [hq] at hp
            obtain ⟨f1, f2, f3, f4, _⟩ := few_some hv hq
            left
            refine ⟨(p.2, o + 1, ((i + 1 : Nat) : Int), l ++ [p.1]), ?_, ⟨i + 1, rfl, by omega, f3, f4, by simp [hlen], by simp only; omega, by simp only; omega, ?_⟩, by simp only; omega⟩
            · simp only [Option.bind_some]
              rw [if_neg (by simp), appK_of (by simp; omega) (by simp; omega), Option.bind_some, succI (by omega), aI64 (by omega) (by omega)]
            · rw [← hp]
              simp only [Option.map_map, Function.comp_def, List.append_assoc, List.singleton_append]
              congr 1
              funext r
              congr 1
              omega
        | some v =>
          rw [hf] at hp
          obtain ⟨f1, f2⟩ := aft_range hv hf
          simp only [Option.bind_some] at hp ⊢
          rw [if_neg (by simp), if_neg (by simp)]
          left
          refine ⟨(v, o, ((i + 1 : Nat) : Int), l ++ [plan[i]]), ?_, ⟨i + 1, rfl, by omega, f1, f2, by simp [hlen], ht0, by simp only; omega, ?_⟩, by simp only; omega⟩
          · rw [appK_of (by simp; omega) (by simp; omega), Option.bind_some, succI (by omega)]
          · rw [← hp]
            simp only [Option.map_map, Function.comp_def, List.append_assoc, List.singleton_append]
      · right
        refine ⟨.inl (o, l), ?_, ?_⟩
        · rw [if_neg (by simp [ltI]; omega)]
        · rw [List.drop_of_length_le (by omega)] at hp
          rw [← hp]
          simp [rep]) (s := (s.first_, 0, 0, [])) ⟨0, rfl, by omega, hv.first0, hv.first1, rfl, by simp, by simp, by simp⟩
  rw [e, hr]
  cases rep s 0 s.first_ plan with
  | some l => rfl
  | none => rfl

theorem greedy40 {s : T29} (hv : Valid s) : g40 s = some (match gre s s.need_.length 0 s.first_ with | some l => (l, 0) | none => ([], 6)) := by
  have n2 := hv.n2
  obtain ⟨b, e1, i1⟩ := g39_eq (small_of hv)
  unfold g40
  rw [e1, Option.bind_some, i1.2 hv, if_neg (by simp)]
  obtain ⟨r, e, hr⟩ := loopO_rule (body := g40_L1 s) (fun x => s.need_.length - x.2.1.toNat)
    (fun x => ∃ i : Nat, x.2.1 = i ∧ i ≤ s.need_.length ∧ 0 ≤ x.1 ∧ x.1 ≤ s.store_ ∧ x.2.2.length = i ∧ (gre s (s.need_.length - i) i x.1).map (x.2.2 ++ ·) = gre s s.need_.length 0 s.first_)
    (fun r => r = match gre s s.need_.length 0 s.first_ with | some l => .inl l | none => .inr ([], 6))
    (fun x ⟨i, hi, hle, hs0, hs1, hlen, hp⟩ => by
      obtain ⟨at_, k, l⟩ := x
      simp only at hi hle hs0 hs1 hlen hp
      subst hi
      rw [g40_L1]
      by_cases hlt : i < s.need_.length
      · rw [if_pos (by simp [ltI]; omega), g86_eq hv (by omega) hs0 hs1]
        rw [show s.need_.length - i = (s.need_.length - (i + 1)) + 1 by omega, gre_succ] at hp
        cases hf : few s i at_ with
        | none =>
          rw [hf] at hp
          right
          refine ⟨.inr ([], 6), by simp, ?_⟩
          rw [← hp]
          rfl
        | some p =>
          rw [hf] at hp
          obtain ⟨f1, f2, f3, f4, _⟩ := few_some hv hf
          left
          refine ⟨(p.2, ((i + 1 : Nat) : Int), l ++ [p.1]), ?_, ⟨i + 1, rfl, by omega, f3, f4, by simp [hlen], ?_⟩, by simp only; omega⟩
          · simp only [Option.bind_some]
            rw [if_neg (by simp), appK_of (by simp; omega) (by simp; omega), Option.bind_some, succI (by omega)]
          · rw [← hp]
            simp [Option.map_map, Function.comp_def]
      · right
        refine ⟨.inl l, ?_, ?_⟩
        · rw [if_neg (by simp [ltI]; omega)]
        · rw [show s.need_.length - i = 0 by omega] at hp
          rw [← hp]
          simp [gre]) (s := (s.first_, 0, [])) ⟨0, rfl, by omega, hv.first0, hv.first1, rfl, by simp⟩
  rw [e, hr]
  cases gre s s.need_.length 0 s.first_ with
  | some l => rfl
  | none => rfl

/-! ### The same -/
theorem same84 {a : List Int} (h : a.length ≤ 1048576) : g84 a a = some true := by
  have hL := loop_scan (body := g84_L1 a a) (n := a.length) (fun _ => none) (.inl ()) (fun i hi => by
    rw [g84_L1]
    simp only [ltI, show ((i : Int) < a.length) = True by simp; omega, decide_true, if_true, idx_nat hi, Option.bind_some, succI (i := i) (by omega), eqI]
    simp) (by rw [g84_L1]; simp [ltI])
  rw [show (List.range a.length).findSome? (fun _ => (none : Option (Unit ⊕ Bool))) = none by simp] at hL
  unfold g84
  rw [hL]
  simp [eqI, g84_j1]
theorem same85 {a : List Int} (h : a.length ≤ 1048576) : g85 a a = some true := by
  have hL := loop_scan (body := g85_L1 a a) (n := a.length) (fun _ => none) (.inl ()) (fun i hi => by
    rw [g85_L1]
    simp only [ltI, show ((i : Int) < a.length) = True by simp; omega, decide_true, if_true, idx_nat hi, Option.bind_some, succI (i := i) (by omega), eqI]
    simp) (by rw [g85_L1]; simp [ltI])
  rw [show (List.range a.length).findSome? (fun _ => (none : Option (Unit ⊕ Bool))) = none by simp] at hL
  unfold g85
  rw [hL]
  simp [eqI, g85_j1]
theorem same37 {s : T29} (h : Small s) : g37 s s = some true := by
  unfold g37
  rw [same84 h.1, Option.bind_some, if_pos rfl, same84 h.2]
  simp [eqI]
theorem same38 {s : T29} (h : Small s) : g38 s s = some true := by
  unfold g38
  rw [same85 h.1, Option.bind_some, if_pos rfl, same85 h.2]
  simp [eqI]
theorem same44 {a : List Int} (h : a.length ≤ 1048576) : g44 a a = some true := by
  unfold g44
  rw [same85 h]
  rfl

/-! ### A plan that is drawn -/
theorem plan36 {s : T29} (hv : Valid s) {more : List Int} (hb : ∀ x ∈ more, 0 ≤ x ∧ x ≤ 255) (hl : more.length ≤ 1048576) : ∃ plan, g36 more s = some plan ∧ Good s plan := by
  have n2 := hv.n2
  have m0 := hv.most0
  have m1 := hv.most1
  unfold g36
  obtain ⟨r, e, hr⟩ := loopO_rule (body := g36_L1 s) (fun x => s.need_.length - x.1.toNat)
    (fun x => ∃ i : Nat, x.1 = i ∧ i ≤ s.need_.length ∧ x.2.2.2.2.length = i ∧ (∀ y ∈ x.2.2.2.2, 0 ≤ y ∧ y ≤ s.most_) ∧ SrcOk ⟨x.2.1, x.2.2.1, x.2.2.2.1⟩ (i : Int))
    (fun r => Good s r.2.2.2)
    (fun x ⟨i, hi, hle, hlen, hy, hs⟩ => by
      obtain ⟨k, c, a, d, l⟩ := x
      simp only at hi hle hlen hy hs
      subst hi
      rw [g36_L1]
      by_cases hlt : i < s.need_.length
      · rw [if_pos (by simp [ltI]; omega), aI64 (a := s.most_) (by omega) (by omega)]
        obtain ⟨v, s', e, v0, v1, hs'⟩ := pick_eq hs (by omega) (k := s.most_ + 1) (by omega) (by omega)
        rw [e, Option.bind_some]
        simp only
        rw [appK_of (by simp; omega) (by simp; omega), Option.bind_some, succI (by omega)]
        left
        refine ⟨_, rfl, ⟨i + 1, rfl, by omega, by simp [hlen], ?_, hs'⟩, by simp only; omega⟩
        intro y hy'
        rcases List.mem_append.1 hy' with h | h
        · exact hy y h
        · rw [List.mem_singleton.1 h]; omega
      · rw [if_neg (by simp [ltI]; omega)]
        right
        exact ⟨_, rfl, by simp only; omega, hy⟩) (s := (0, more, 0, 0, [])) ⟨0, rfl, by omega, rfl, by simp, ⟨hb, hl, by simp, by simp⟩⟩
  rw [e]
  exact ⟨_, rfl, hr⟩

/-! ### The steps through a repaired plan -/
theorem step47 {s : T29} (hv : Valid s) {k : Nat} (hk : k < s.need_.length) {st x v : Int} (h1 : 0 ≤ st) (h2 : st ≤ s.store_) (h3 : 0 ≤ x) (h4 : x ≤ s.most_) (ha : aft s k st x = some v) : g47 s (k : Int) st x = some (v, 0) := by
  obtain ⟨b, e1, i1⟩ := g39_eq (small_of hv)
  unfold g47
  rw [e1, Option.bind_some, i1.2 hv, if_neg (by simp)]
  rw [if_neg (by simp [ltI, leI]; omega), g89_eq hv hk h1 h2 h3 h4, ha]
  simp
def diffTo (l m : List Int) : Nat → Int
  | 0 => 0
  | i + 1 => diffTo l m i + (if l.getD i 0 = m.getD i 0 then 0 else 1)
theorem diffTo_cons (x y : Int) (l m : List Int) : ∀ i, diffTo (x :: l) (y :: m) (i + 1) = (if x = y then 0 else 1) + diffTo l m i
  | 0 => by simp [diffTo]
  | i + 1 => by
    have := diffTo_cons x y l m i
    rw [diffTo, this, diffTo]
    simp only [List.getD_cons_succ]
    omega
theorem diffTo_eq : ∀ {l m : List Int}, l.length = m.length → diffTo l m l.length = diff l m
  | [], [], _ => rfl
  | [], y :: ys, h => by simp at h
  | x :: xs, [], h => by simp at h
  | x :: xs, y :: ys, h => by
    rw [List.length_cons, diffTo_cons, diffTo_eq (l := xs) (m := ys) (by simpa using h)]
    rfl
theorem diffTo_bnd (l m : List Int) : ∀ i : Nat, 0 ≤ diffTo l m i ∧ diffTo l m i ≤ i
  | 0 => by simp [diffTo]
  | i + 1 => by
    have := diffTo_bnd l m i
    simp only [diffTo]
    split <;> omega
theorem steps9 {s : T29} (hv : Valid s) {plan l ss : List Int} {t : Int} {c : Int} (hgp : Good s plan) (hg : Good s l) (hp : path s 0 s.first_ l = some ss) :
    loopO (g9_L1 (l, t, 0) s (ss, 0) plan) (s.first_, 0, 0, 0) = some (.inl (costTo s l l.length, diff l plan)) := by
  have n2 := hv.n2
  have hgl := hg.1
  have hgpl := hgp.1
  have hpl := hv.pl
  have hsl := path_len hp
  obtain ⟨r, e, hr⟩ := loopO_rule (body := g9_L1 (l, t, 0) s (ss, 0) plan) (fun x => l.length - x.2.2.2.toNat)
    (fun x => ∃ i : Nat, x.2.2.2 = i ∧ i ≤ l.length ∧ 0 ≤ x.1 ∧ x.1 ≤ s.store_ ∧ path s i x.1 (l.drop i) = some (ss.drop i) ∧ x.2.1 = costTo s l i ∧ x.2.2.1 = diffTo l plan i)
    (fun r => r = .inl (costTo s l l.length, diff l plan))
    (fun x ⟨i, hi, hle, hs0, hs1, hpp, hc, hd⟩ => by
      obtain ⟨at_, sum, d, k⟩ := x
      simp only at hi hle hs0 hs1 hpp hc hd
      subst hi hc hd
      rw [g9_L1]
      simp only
      by_cases hlt : i < l.length
      · obtain ⟨x1, x2⟩ := hg.2 _ (List.getElem_mem hlt)
        obtain ⟨c1, c2, c3, c4⟩ := cost_step hv hg hlt
        have hcb := cost_bnd hv hg i (by omega)
        have hdb := diffTo_bnd l plan i
        rw [List.drop_eq_getElem_cons hlt, List.drop_eq_getElem_cons (show i < ss.length by omega), path_cons] at hpp
        cases hf : aft s i at_ l[i] with
        | none => rw [hf] at hpp; cases hpp
        | some v =>
          rw [hf] at hpp
          obtain ⟨ss', hp', e'⟩ := Option.map_eq_some_iff.1 hpp
          simp only [List.cons.injEq] at e'
          obtain ⟨e1, e2⟩ := e'
          obtain ⟨f1, f2⟩ := aft_range hv hf
          rw [if_pos (by simp [ltI]; omega), idx_nat hlt, Option.bind_some, step47 hv (by omega) hs0 hs1 x1 x2 hf, Option.bind_some]
          rw [if_neg (by simp [eqI]), idx_nat (by omega), Option.bind_some, Option.bind_some, if_neg (by simp [eqI, e1])]
          rw [idx_nat (by omega), Option.bind_some, Option.bind_some, Option.bind_some, idx_nat (by omega), Option.bind_some, pr_get (by omega)]
          rw [← c4, c3, aI64 (a := costTo s l i) (by omega) (by omega), succI (by omega), aI64 (a := diffTo l plan i) (by omega) (by omega)]
          have hpd : plan.getD i 0 = plan[i] := by simp [List.getD, show i < plan.length by omega]
          left
          by_cases hxy : l.getD i 0 = plan[i]
          · rw [if_neg (by simp only [eqI, hxy]; simp)]
            exact ⟨_, rfl, ⟨i + 1, rfl, by omega, f1, f2, by rw [hp', e2], rfl, by simp only [diffTo]; rw [hpd, if_pos hxy]; omega⟩, by simp only; omega⟩
          · rw [if_pos (by simpa only [eqI, Bool.not_eq_true', beq_eq_false_iff_ne, ne_eq] using hxy)]
            exact ⟨_, rfl, ⟨i + 1, rfl, by omega, f1, f2, by rw [hp', e2], rfl, by simp only [diffTo]; rw [hpd, if_neg hxy]⟩, by simp only; omega⟩
      · right
        refine ⟨_, by rw [if_neg (by simp [ltI]; omega)], ?_⟩
        have : i = l.length := by omega
        subst this
        rw [diffTo_eq (by omega)]) (s := (s.first_, 0, 0, 0)) ⟨0, rfl, by omega, hv.first0, hv.first1, by simpa using hp, rfl, rfl⟩
  rw [e, hr]

/-- The text of a season, read again. -/
theorem again {s : T29} (hv : Valid s) : ∃ t, g16 s = some (sb t) ∧ g27 (sb t) = some (s, 0) := by
  obtain ⟨b, e1, i1⟩ := g39_eq (small_of hv)
  have hs := small_of hv
  have n2 := hv.n2
  refine ⟨seasonT s, ?_, ?_⟩
  · unfold g16
    rw [e1, Option.bind_some, i1.2 hv, if_neg (by simp), text58 hv hs]
    rfl
  · have hlen : (seasonT s).length ≤ 1048576 := by
      have := lines_len hv _ (Nat.le_refl _)
      unfold seasonT
      omega
    rcases season27 hlen with ⟨s', v1, v2, v3, v4⟩ | ⟨v1, v2⟩
    · have := season_inj v1 hv v3
      subst this
      exact v4
    · exact absurd rfl (v1 s hv hs)

theorem law9 (code more : List Int) (hc : code.length ≤ maxLen ∧ (∀ y ∈ code, (Lit.int .u8 y).wf = true)) (hm : more.length ≤ maxLen ∧ (∀ y ∈ more, (Lit.int .u8 y).wf = true)) : g9 code more = some true := by
  have bytes : ∀ l : List Int, (∀ y ∈ l, (Lit.int .u8 y).wf = true) → ∀ y ∈ l, 0 ≤ y ∧ y ≤ 255 := fun l h y hy => by
    have h1 := h y hy
    simp only [Lit.wf, decide_eq_true_eq, Bool.and_eq_true] at h1
    have e1 : IntKind.u8.min = 0 := by decide
    have e2 : IntKind.u8.max = 255 := by decide
    rw [e1, e2] at h1
    exact h1
  unfold g9
  have h34 : g34 code more = some (ltI 3000 (code.length : Int) || ltI 3000 (more.length : Int)) := rfl
  rw [h34, Option.bind_some]
  cases hlong : (ltI 3000 (code.length : Int) || ltI 3000 (more.length : Int))
  rotate_left
  · rw [if_pos rfl]
  rw [if_neg (by simp)]
  simp only [ltI, Bool.or_eq_false_iff, decide_eq_false_iff_not] at hlong
  obtain ⟨s, e, hv, _⟩ := season_eq (bytes _ hc.2) (by omega)
  rw [e, Option.bind_some]
  obtain ⟨plan, e2, hg⟩ := plan36 hv (bytes _ hm.2) (by omega)
  rw [e2, Option.bind_some]
  obtain ⟨t, e3, e4⟩ := again hv
  have hsm := small_of hv
  have n2 := hv.n2
  obtain ⟨b, e5, i5⟩ := g39_eq hsm
  rw [i5.2 hv] at e5
  have hgl := hg.1
  rw [e3, Option.bind_some, e4, Option.bind_some]
  simp only
  rw [if_neg (by simp [eqI]), same37 hsm]
  simp only [Option.bind_some, Bool.not_true, Bool.false_eq_true, if_false]
  rw [same38 hsm]
  simp only [Option.bind_some, Bool.not_true, Bool.false_eq_true, if_false]
  rw [e5]
  simp only [Option.bind_some, Bool.not_true, Bool.false_eq_true, if_false]
  obtain ⟨r, g1, g2, g3⟩ := greedy_eq hsm
  obtain ⟨q, p1, p2, p3⟩ := repair_eq hsm (plan := plan) (by omega)
  have hgr := greedy40 hv
  have hrp := repair42 hv hg
  rw [g1, g2, p1, p2]
  simp only [Option.bind_some]
  rw [if_neg (by simp [eqI]), same44 g3]
  simp only [Option.bind_some, Bool.not_true, Bool.false_or]
  rw [if_neg (by simp [eqI]), same44 p3]
  simp only [Option.bind_some, Bool.not_true, Bool.false_or]
  rw [if_neg (by simp [eqI])]
  rw [g2] at hgr
  rw [p2] at hrp
  have fin : g9_j1 q s q plan = some true := by
    unfold g9_j1
    cases hr : rep s 0 s.first_ plan with
    | none =>
      rw [hr] at hrp
      obtain rfl := Option.some.inj hrp
      rfl
    | some z =>
      obtain ⟨t, l⟩ := z
      rw [hr] at hrp
      obtain rfl := Option.some.inj hrp
      obtain ⟨⟨ss, q1⟩, q2, q3, q4⟩ := rep_path hv hr hg.2
      have hgl' : Good s l := ⟨by omega, q3⟩
      have hsl := path_len q1
      simp only
      rw [if_neg (by simp [eqI]), stores46 hv hgl', cost45 hv hgl', repair42 hv hgl', q1, path_rep q1]
      simp only [Option.bind_some]
      rw [if_neg (by simp [eqI, hsl]), same44 (by omega)]
      simp only [Option.bind_some, Bool.not_true, Bool.false_eq_true, if_false]
      rw [steps9 (c := 0) hv hg hgl' q1]
      simp only [Option.bind_some]
      unfold g9_j2
      rw [cost45 hv hg]
      subst q4
      cases hpp : path s 0 s.first_ plan with
      | some ss' =>
        have := path_rep hpp
        rw [hr] at this
        have := Option.some.inj this
        simp only [Prod.mk.injEq] at this
        simp [eqI, this.1]
      | none =>
        have : diff l plan ≠ 0 := fun e => by
          rw [diff_zero q2 e] at q1
          rw [q1] at hpp
          cases hpp
        simp [eqI, this]
  cases hgg : gre s s.need_.length 0 s.first_ with
  | none =>
    rw [hgg] at hgr
    obtain rfl := Option.some.inj hgr
    rw [if_neg (by simp [eqI])]
    exact fin
  | some l =>
    rw [hgg] at hgr
    obtain rfl := Option.some.inj hgr
    obtain ⟨⟨ss, q1⟩, q2, q3⟩ := gre_path hv hgg
    simp only
    rw [if_pos (by simp [eqI]), cost45 hv ⟨q2, q3⟩, q1, Option.bind_some, if_neg (by simp [eqI])]
    exact fin
end Go.Proofs.YtilkneilafpjiaaDoor
