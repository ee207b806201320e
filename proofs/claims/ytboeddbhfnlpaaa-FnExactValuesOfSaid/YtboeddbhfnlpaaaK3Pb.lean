/- Plain laws: the store behind a slot, the least logs, the greedy plan; marks. -/
import Derived.Test.YtboeddbhfnlpaaaK3a
import Derived.Test.YtboeddbhfnlpaaaK3a
import Derived.Test.YtboeddbhfnlpaaaK3a
import Derived.Test.YtboeddbhfnlpaaaK3Pa
namespace Go.Proofs.Ytboeddbhfnlpaaa
open Go.VL
set_option linter.unusedSimpArgs false
set_option linter.unusedVariables false

def nd (s : T23) (i : Nat) : Int := s.need_.getD i 0
def pr (s : T23) (i : Nat) : Int := s.price_.getD i 0
/-- What is there behind a slot. -/
def left (s : T23) (i : Nat) (store logs : Int) : Int := store + logs * s.yield_ - nd s i
/-- The store behind a slot. -/
def aft (s : T23) (i : Nat) (store logs : Int) : Option Int :=
  if left s i store logs < 0 then none else some (minI (left s i store logs - (left s i store logs * s.loss_).tdiv 100) s.store_)

theorem nd_get {s : T23} {i : Nat} (h : i < s.need_.length) : s.need_[i] = nd s i := by simp [nd, List.getD, h]
theorem pr_get {s : T23} {i : Nat} (h : i < s.price_.length) : s.price_[i] = pr s i := by simp [pr, List.getD, h]
theorem nd_bnd {s : T23} (hv : Valid s) {i : Nat} (h : i < s.need_.length) : 0 ≤ nd s i ∧ nd s i ≤ 200 := by rw [← nd_get h]; exact hv.need _ (List.getElem_mem h)
theorem pr_bnd {s : T23} (hv : Valid s) {i : Nat} (h : i < s.need_.length) : 0 ≤ pr s i ∧ pr s i ≤ 1000 := by
  have h' : i < s.price_.length := by rw [hv.pl]; exact h
  rw [← pr_get h']; exact hv.price _ (List.getElem_mem h')

theorem mul_bnd {a b A B : Int} (h1 : 0 ≤ a) (h2 : a ≤ A) (h3 : 0 ≤ b) (h4 : b ≤ B) : 0 ≤ a * b ∧ a * b ≤ A * B :=
  ⟨Int.mul_nonneg h1 h3, Int.mul_le_mul h2 h4 h3 (by omega)⟩
theorem tdiv_bnd {a : Int} (h : 0 ≤ a) : 0 ≤ a.tdiv 100 ∧ a.tdiv 100 ≤ a := by
  rw [Int.tdiv_eq_ediv_of_nonneg h]; omega

theorem left_bnd {s : T23} (hv : Valid s) {i : Nat} (hi : i < s.need_.length) {store logs : Int} (h1 : 0 ≤ store) (h2 : store ≤ s.store_) (h3 : 0 ≤ logs) (h4 : logs ≤ s.most_) : -200 ≤ left s i store logs ∧ left s i store logs ≤ 860 ∧ 0 ≤ logs * s.yield_ ∧ logs * s.yield_ ≤ 800 := by
  obtain ⟨b1, b2⟩ := nd_bnd hv hi
  obtain ⟨m1, m2⟩ := mul_bnd (A := 20) (B := 40) h3 (by have := hv.most1; omega) (show 0 ≤ s.yield_ by have := hv.yield0; omega) hv.yield1
  have := hv.store1
  unfold left
  omega

theorem aft_range {s : T23} (hv : Valid s) {i : Nat} {store logs v : Int} (h : aft s i store logs = some v) : 0 ≤ v ∧ v ≤ s.store_ := by
  unfold aft at h
  split at h
  · cases h
  · rename_i hh
    obtain rfl := Option.some.inj h
    have p1 := Int.mul_nonneg (show 0 ≤ left s i store logs by omega) hv.loss0
    have p2 : left s i store logs * s.loss_ ≤ left s i store logs * 100 := Int.mul_le_mul_of_nonneg_left hv.loss1 (by omega)
    rw [Int.tdiv_eq_ediv_of_nonneg p1]
    have := hv.store0
    unfold minI
    split <;> omega

section
variable {s : T23} {i : Nat} {store logs : Int}
theorem aft_parts (hv : Valid s) (hi : i < s.need_.length) (h1 : 0 ≤ store) (h2 : store ≤ s.store_) (h3 : 0 ≤ logs) (h4 : logs ≤ s.most_) :
    mI .i64 logs s.yield_ = logs * s.yield_ ∧ aI .i64 store (logs * s.yield_) = store + logs * s.yield_ ∧ sI .i64 (store + logs * s.yield_) (nd s i) = left s i store logs ∧
    (0 ≤ left s i store logs → mI .i64 (left s i store logs) s.loss_ = left s i store logs * s.loss_ ∧ dI .i64 (left s i store logs * s.loss_) 100 = some ((left s i store logs * s.loss_).tdiv 100) ∧ sI .i64 (left s i store logs) ((left s i store logs * s.loss_).tdiv 100) = left s i store logs - (left s i store logs * s.loss_).tdiv 100) := by
  obtain ⟨b1, b2, b3, b4⟩ := left_bnd hv hi h1 h2 h3 h4
  have := hv.store1
  have e0 := nd_bnd hv hi
  have hl : store + logs * s.yield_ - nd s i = left s i store logs := rfl
  refine ⟨mI64 (by omega) (by omega), aI64 (by omega) (by omega), ?_, fun hh => ?_⟩
  · rw [sI64 (by omega) (by omega)]; rfl
  · obtain ⟨q1, q2⟩ := mul_bnd (A := 860) (B := 100) hh b2 hv.loss0 hv.loss1
    obtain ⟨t1, t2⟩ := tdiv_bnd q1
    exact ⟨mI64 (by omega) (by omega), dI64 (by omega) (by omega) (by omega), sI64 (by omega) (by omega)⟩

theorem g45_eq (hv : Valid s) (hi : i < s.need_.length) (h1 : 0 ≤ store) (h2 : store ≤ s.store_) (h3 : 0 ≤ logs) (h4 : logs ≤ s.most_) : g45 s (i : Int) store logs = some (match aft s i store logs with | none => -1 | some v => v) := by
  obtain ⟨p1, p2, p3, p4⟩ := aft_parts hv hi h1 h2 h3 h4
  unfold g45 aft
  rw [idx_nat hi, Option.bind_some, nd_get hi, p1, p2, p3]
  simp only [ltI, decide_eq_true_eq]
  by_cases hh : left s i store logs < 0
  · rw [if_pos hh, if_pos hh]
  · obtain ⟨r1, r2, r3⟩ := p4 (by omega)
    rw [if_neg hh, if_neg hh, r1, r2, Option.bind_some, r3]
    unfold g51 minI
    simp only [ltI, decide_eq_true_eq]
    split <;> rfl

theorem g37_eq (hv : Valid s) (hi : i < s.need_.length) (h1 : 0 ≤ store) (h2 : store ≤ s.store_) (h3 : 0 ≤ logs) (h4 : logs ≤ s.most_) : g37 s (i : Int) store logs = some (match aft s i store logs with | none => (0, false) | some v => (v, true)) := by
  obtain ⟨p1, p2, p3, p4⟩ := aft_parts hv hi h1 h2 h3 h4
  unfold g37 aft
  rw [idx_nat hi, Option.bind_some, nd_get hi, p1, p2, p3]
  simp only [ltI, decide_eq_true_eq]
  by_cases hh : left s i store logs < 0
  · rw [if_pos hh, if_pos hh]
  · obtain ⟨r1, r2, r3⟩ := p4 (by omega)
    rw [if_neg hh, if_neg hh, r1, r2, Option.bind_some, r3]

/-- The least number of logs that do, and the store behind them. -/
def few (s : T23) (i : Nat) (store : Int) : Option (Int × Int) := (List.range (s.most_.toNat + 1)).findSome? fun (n : Nat) => (aft s i store (n : Int)).map fun v => ((n : Int), v)

theorem few_some (hv : Valid s) {p : Int × Int} (h : few s i store = some p) : 0 ≤ p.1 ∧ p.1 ≤ s.most_ ∧ 0 ≤ p.2 ∧ p.2 ≤ s.store_ ∧ aft s i store p.1 = some p.2 := by
  obtain ⟨n, hn, h1, _⟩ := range_some h
  rw [Option.map_eq_some_iff] at h1
  obtain ⟨v, h2, rfl⟩ := h1
  obtain ⟨r1, r2⟩ := aft_range hv h2
  have := hv.most0
  exact ⟨by simp, by simp only; omega, r1, r2, h2⟩

end

/-! Marks -/
/-- A slice is filled with numbers. -/
noncomputable def markB : (Int × Int × List Int) → Option ((Int × Int × List Int) ⊕ (Int × List Int))
  | (k, i, l) =>
    if ltI i (l.length : Int) = true then
      (idx l i).bind fun e =>
      some (.inl (aI .i64 k 1, aI .i64 i 1, (l.set i.toNat k)))
    else
      some (.inr (k, l))

theorem mark_eq {l : List Int} {k : Int} (hk : 0 ≤ k) (hk2 : k ≤ 4611686018427387904) (hl : l.length ≤ 1048576) : loopO markB (k, 0, l) = some (k + l.length, marks k l.length) := by
  have hset : ∀ i, i < l.length → (marks k i ++ l.drop i).set i (k + i) = marks k (i + 1) ++ l.drop (i + 1) := fun i hi => by
    apply List.ext_getElem?
    intro j
    rw [List.getElem?_set]
    simp only [List.length_append, marks_length, List.length_drop]
    by_cases hj : i = j
    · subst hj
      rw [if_pos rfl, if_pos (by omega), List.getElem?_append_left (by simp), marks_get (by omega)]
    · rw [if_neg hj]
      by_cases hlt : j < i
      · rw [List.getElem?_append_left (by simpa using hlt), List.getElem?_append_left (by simp; omega), marks_get hlt, marks_get (by omega)]
      · rw [List.getElem?_append_right (by simp; omega), List.getElem?_append_right (by simp; omega)]
        simp only [marks_length, List.getElem?_drop]
        congr 1; omega
  have := loop_run (body := markB) (fun i => (k + i, (i : Int), marks k i ++ l.drop i)) l.length (fun i hi => by
    have hlen : (marks k i ++ l.drop i).length = l.length := by simp; omega
    rw [markB, hlen, if_pos (by simp [ltI]; omega), idx_nat (by omega), Option.bind_some, succI (by omega), aI64 (by omega) (by omega), Int.toNat_natCast, hset i hi]
    congr 3
    omega) (r := (k + l.length, marks k l.length)) (by
    rw [markB]
    have hlen : (marks k l.length ++ l.drop l.length).length = l.length := by simp
    rw [hlen, if_neg (by simp [ltI])]
    simp)
  simpa [marks] using this

end Go.Proofs.Ytboeddbhfnlpaaa

