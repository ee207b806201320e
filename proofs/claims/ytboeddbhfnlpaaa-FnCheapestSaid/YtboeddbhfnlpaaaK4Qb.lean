/- Plain laws of the cheapest plan: what plans cost, and what the table of values tells of them. Plain laws of the cheapest plan: both ways find the same plan. Plain laws of the cheapest plan: costs, regrets, certificates, flaws. Plain laws of the cheapest plan: how many there are. Plain law of the cheapest plan: it is certified, no plan has less, and a number that is raised is a flaw. -/
import Derived.Test.YtboeddbhfnlpaaaK4Qa
import Derived.Test.YtboeddbhfnlpaaaK4b
import Derived.Test.YtboeddbhfnlpaaaK4b
import Derived.Test.YtboeddbhfnlpaaaK4b
import Derived.Test.YtboeddbhfnlpaaaK4b
import Derived.Test.YtboeddbhfnlpaaaK4b
import Derived.Test.YtboeddbhfnlpaaaK4b
import Derived.Test.YtboeddbhfnlpaaaK4b
import Derived.Test.YtboeddbhfnlpaaaK4b
import Derived.Test.YtboeddbhfnlpaaaK4b
namespace Go.Proofs.Ytboeddbhfnlpaaa
open Go.VL
set_option linter.unusedSimpArgs false
set_option linter.unusedVariables false
set_option maxHeartbeats 4000000
section
variable {s : T23} {T : List (List Int)}

/-- What a plan costs from a slot on, if it can be done. -/
def feas (s : T23) : Nat → Int → List Int → Option Int
  | _, _, [] => some 0
  | k, v, x :: p => match aft s k v x with
    | none => none
    | some v' => (feas s (k + 1) v' p).map (pr s k * x + ·)
def Bnd (s : T23) (p : List Int) : Prop := ∀ x ∈ p, 0 ≤ x ∧ x ≤ s.most_
theorem feas_cons {k : Nat} {v x c : Int} {p : List Int} (h : feas s k v (x :: p) = some c) : ∃ v' c', aft s k v x = some v' ∧ feas s (k + 1) v' p = some c' ∧ c = pr s k * x + c' := by
  unfold feas at h
  split at h
  · cases h
  · rename_i v' ha
    obtain ⟨c', h1, h2⟩ := Option.map_eq_some_iff.1 h
    exact ⟨v', c', ha, h1, h2.symm⟩
/-- No plan costs less than the table tells. -/
theorem feas_low (hv : Valid s) (hT : TabOk s T 0) : ∀ (p : List Int) (k : Nat) (v c : Int), k + p.length = s.need_.length → 0 ≤ v → v ≤ s.store_ → Bnd s p → feas s k v p = some c → cellAt T k v ≠ -1 ∧ cellAt T k v ≤ c
  | [], k, v, c, hk, h0, h1, _, h => by
    have : k = s.need_.length := by simpa using hk
    subst this
    cases h
    rw [hT.last v h0 h1]
    omega
  | x :: p, k, v, c, hk, h0, h1, hb, h => by
    obtain ⟨v', c', ha, hf, rfl⟩ := feas_cons h
    have hr := aft_range hv ha
    have hk' : k < s.need_.length := by simp at hk; omega
    obtain ⟨i1, i2⟩ := feas_low hv hT p (k + 1) v' c' (by simp at hk; omega) hr.1 hr.2 (fun y hy => hb y (by simp [hy])) hf
    have hx := hb x (by simp)
    obtain ⟨l1, l2⟩ := (hT.cell k (by omega) hk' v h0 h1).low x v' hx.1 (by omega) ha i1
    exact ⟨l1, by omega⟩
/-- The cheapest step. -/
def Tight (s : T23) (T : List (List Int)) (k : Nat) (v x v' : Int) : Prop := aft s k v x = some v' ∧ cellAt T (k + 1) v' ≠ -1 ∧ pr s k * x + cellAt T (k + 1) v' = cellAt T k v
theorem tight_ex (hT : TabOk s T 0) {k : Nat} (hk : k < s.need_.length) {v : Int} (h0 : 0 ≤ v) (h1 : v ≤ s.store_) (hc : cellAt T k v ≠ -1) : ∃ x v', 0 ≤ x ∧ x ≤ s.most_ ∧ Tight s T k v x v' := by
  rcases (hT.cell k (by omega) hk v h0 h1).best with h | ⟨_, x, v', a1, a2, a3, a4, a5⟩
  · exact absurd h hc
  · exact ⟨x, v', a1, by omega, a3, a4, a5.symm⟩
theorem opt_cons (hv : Valid s) (hT : TabOk s T 0) {k : Nat} {v x : Int} {p : List Int} (hk : k + (x :: p).length = s.need_.length) (h0 : 0 ≤ v) (h1 : v ≤ s.store_) (hb : Bnd s (x :: p)) (h : feas s k v (x :: p) = some (cellAt T k v)) :
    ∃ v', Tight s T k v x v' ∧ feas s (k + 1) v' p = some (cellAt T (k + 1) v') := by
  obtain ⟨v', c', ha, hf, e⟩ := feas_cons h
  have hr := aft_range hv ha
  have hk' : k < s.need_.length := by simp at hk; omega
  obtain ⟨i1, i2⟩ := feas_low hv hT p (k + 1) v' c' (by simp at hk; omega) hr.1 hr.2 (fun y hy => hb y (by simp [hy])) hf
  have hx := hb x (by simp)
  obtain ⟨l1, l2⟩ := (hT.cell k (by omega) hk' v h0 h1).low x v' hx.1 (by omega) ha i1
  have : c' = cellAt T (k + 1) v' := by omega
  subst this
  exact ⟨v', ⟨ha, i1, e.symm⟩, hf⟩
theorem feas_app : ∀ (l : List Int) (k : Nat) (v v' c : Int) (p : List Int), (∀ c', feas s (k + l.length) v' p = some c' → ∃ a, feas s k v (l ++ p) = some a) → True := fun _ _ _ _ _ _ _ => trivial

/-- A place of the table. -/
theorem tab_idx (hR : Rows s T 0) {k : Nat} (hk : k ≤ s.need_.length) {v : Int} (h0 : 0 ≤ v) (h1 : v ≤ s.store_) : ∃ row, idx T (k : Int) = some row ∧ idx row v = some (cellAt T k v) ∧ row.length = s.store_.toNat + 1 := by
  have hk' : k < T.length := by rw [hR.1]; omega
  have hl := hR.2 k hk' (Nat.zero_le _)
  have hv' : v.toNat < T[k].length := by rw [hl]; omega
  exact ⟨T[k], idx_nat hk', by rw [idx_of h0 hv', cellAt_eq hk' hv'], hl⟩
theorem cell_bnd (hv : Valid s) (hT : TabOk s T 0) {k : Nat} (hk : k ≤ s.need_.length) {v : Int} (h0 : 0 ≤ v) (h1 : v ≤ s.store_) : -1 ≤ cellAt T k v ∧ cellAt T k v ≤ 480000 := by
  have := hT.bnd k (by omega) hk v h0 h1
  have := hv.n2
  omega
theorem price_idx (hv : Valid s) {k : Nat} (hk : k < s.need_.length) : idx s.price_ (k : Int) = some (pr s k) := by
  have h' : k < s.price_.length := by rw [hv.pl]; exact hk
  rw [idx_nat h', pr_get h']
theorem cost_step (hv : Valid s) (hT : TabOk s T 0) {k : Nat} (hk : k < s.need_.length) {x v' : Int} (x0 : 0 ≤ x) (x1 : x ≤ s.most_) (h0 : 0 ≤ v') (h1 : v' ≤ s.store_) : mI .i64 (pr s k) x = pr s k * x ∧ aI .i64 (pr s k * x) (cellAt T (k + 1) v') = pr s k * x + cellAt T (k + 1) v' ∧ 0 ≤ pr s k * x ∧ pr s k * x ≤ 20000 := by
  obtain ⟨p0, p1⟩ := pr_bnd hv hk
  have := hv.most1
  obtain ⟨m0, m1⟩ := mul_bnd (A := 1000) (B := 20) p0 p1 x0 (by omega)
  have := cell_bnd hv hT (k := k + 1) (by omega) h0 h1
  exact ⟨mI64 (by omega) (by omega), aI64 (by omega) (by omega), m0, by omega⟩

/-- The first cheapest step. -/
def firstT (s : T23) (T : List (List Int)) (k : Nat) (v : Int) : Option (Int × Int) := (List.range (s.most_.toNat + 1)).findSome? fun (n : Nat) => match aft s k v (n : Int) with
  | none => none
  | some v' => if cellAt T (k + 1) v' ≠ -1 ∧ pr s k * (n : Int) + cellAt T (k + 1) v' = cellAt T k v then some ((n : Int), v') else none
theorem firstT_ok (hv : Valid s) {k : Nat} {v : Int} {z : Int × Int} (h : firstT s T k v = some z) : 0 ≤ z.1 ∧ z.1 ≤ s.most_ ∧ Tight s T k v z.1 z.2 := by
  obtain ⟨i, hi, h1, _⟩ := range_some h
  have := hv.most0
  split at h1
  · cases h1
  · rename_i v' ha
    split at h1
    · rename_i hc
      cases h1
      exact ⟨by simp only; omega, by simp only; omega, ha, hc.1, hc.2⟩
    · cases h1
theorem firstT_ex (hv : Valid s) (hT : TabOk s T 0) {k : Nat} (hk : k < s.need_.length) {v : Int} (h0 : 0 ≤ v) (h1 : v ≤ s.store_) (hc : cellAt T k v ≠ -1) : ∃ z, firstT s T k v = some z := by
  cases h : firstT s T k v with
  | some z => exact ⟨z, rfl⟩
  | none =>
    exfalso
    obtain ⟨x, v', x0, x1, t1, t2, t3⟩ := tight_ex hT hk h0 h1 hc
    have := range_none.1 h x.toNat (by omega)
    have hx : ((x.toNat : Nat) : Int) = x := by omega
    rw [hx, t1] at this
    simp only at this
    rw [if_pos ⟨t2, t3⟩] at this
    cases this

/-- The cheapest plan, step by step: the store, and what has been burnt. -/
def stepsB (s : T23) (T : List (List Int)) : Nat → Int × List Int
  | 0 => (s.first_, [])
  | i + 1 => match firstT s T i (stepsB s T i).1 with
    | some z => (z.2, (stepsB s T i).2 ++ [z.1])
    | none => stepsB s T i
theorem steps_ok (hv : Valid s) (hT : TabOk s T 0) (hc : cellAt T 0 s.first_ ≠ -1) : ∀ i, i ≤ s.need_.length → (0 ≤ (stepsB s T i).1 ∧ (stepsB s T i).1 ≤ s.store_) ∧ cellAt T i (stepsB s T i).1 ≠ -1 ∧ (stepsB s T i).2.length = i ∧ Bnd s (stepsB s T i).2 ∧ ∀ p c, feas s i (stepsB s T i).1 p = some c → feas s 0 s.first_ ((stepsB s T i).2 ++ p) = some (cellAt T 0 s.first_ - cellAt T i (stepsB s T i).1 + c)
  | 0, _ => by
    refine ⟨⟨hv.first0, hv.first1⟩, hc, rfl, by intro x hx; simp [stepsB] at hx, fun p c h => ?_⟩
    simp only [stepsB, List.nil_append] at h ⊢
    rw [h]
    congr 1
    omega
  | i + 1, hi => by
    obtain ⟨⟨a0, a1⟩, a2, a3, a4, a5⟩ := steps_ok hv hT hc i (by omega)
    obtain ⟨z, hz⟩ := firstT_ex hv hT (by omega) a0 a1 a2
    obtain ⟨z0, z1, t1, t2, t3⟩ := firstT_ok hv hz
    have e : stepsB s T (i + 1) = (z.2, (stepsB s T i).2 ++ [z.1]) := by
      conv => lhs; unfold stepsB
      rw [hz]
    rw [e]
    refine ⟨aft_range hv t1, t2, by simp [a3], fun x hx => ?_, fun p c h => ?_⟩
    · rcases List.mem_append.1 hx with hx | hx
      · exact a4 x hx
      · simp at hx; subst hx; exact ⟨z0, z1⟩
    · simp only [List.append_assoc, List.singleton_append]
      have hf : feas s i (stepsB s T i).1 (z.1 :: p) = some (pr s i * z.1 + c) := by
        conv => lhs; unfold feas
        rw [t1]
        simp only
        rw [h]
        rfl
      rw [a5 _ _ hf]
      congr 1
      omega
/-- The plan that is found: it can be done, and costs what the table tells. -/
theorem best_plan (hv : Valid s) (hT : TabOk s T 0) (hc : cellAt T 0 s.first_ ≠ -1) : (stepsB s T s.need_.length).2.length = s.need_.length ∧ Bnd s (stepsB s T s.need_.length).2 ∧ feas s 0 s.first_ (stepsB s T s.need_.length).2 = some (cellAt T 0 s.first_) := by
  obtain ⟨⟨a0, a1⟩, a2, a3, a4, a5⟩ := steps_ok hv hT hc s.need_.length (Nat.le_refl _)
  have := a5 [] 0 rfl
  rw [List.append_nil, hT.last _ a0 a1] at this
  refine ⟨a3, a4, ?_⟩
  rw [this]
  congr 1
  omega
end
end Go.Proofs.Ytboeddbhfnlpaaa
namespace Go.Proofs.Ytboeddbhfnlpaaa
open Go.VL
set_option linter.unusedSimpArgs false
set_option linter.unusedVariables false
set_option maxHeartbeats 4000000
section
variable {s : T23} {T : List (List Int)}

theorem test_some (hv : Valid s) (hT : TabOk s T 0) {k : Nat} (hk : k < s.need_.length) {v x v' : Int} (h0 : 0 ≤ v) (h1 : v ≤ s.store_) (x0 : 0 ≤ x) (x1 : x ≤ s.most_) (ha : aft s k v x = some v') {β : Type} (K : Bool → Option β) :
    ((((idx T (aI .i64 (k : Int) 1)).bind fun e1088 => (idx e1088 v').bind fun e1090 => some (!eqI e1090 (-1))).bind fun w1092 =>
      (if w1092 = true then (idx s.price_ (k : Int)).bind fun e1093 => (idx T (aI .i64 (k : Int) 1)).bind fun e1095 => (idx e1095 v').bind fun e1097 => (idx T (k : Int)).bind fun e1099 => (idx e1099 v).bind fun e1101 => some (eqI (aI .i64 (mI .i64 e1093 x) e1097) e1101) else some false).bind K)) = K (decide (cellAt T (k + 1) v' ≠ -1 ∧ pr s k * x + cellAt T (k + 1) v' = cellAt T k v)) := by
  have hr := aft_range hv ha
  have hR := hT.rows
  obtain ⟨row1, a1, a2, _⟩ := tab_idx hR (k := k + 1) (by omega) hr.1 hr.2
  obtain ⟨row0, b1, b2, _⟩ := tab_idx hR (k := k) (by omega) h0 h1
  obtain ⟨c1, c2, _⟩ := cost_step hv hT hk x0 x1 hr.1 hr.2
  have hn2 := hv.n2
  rw [succI (by omega), a1]
  simp only [Option.bind_some, a2]
  by_cases hc : cellAt T (k + 1) v' = -1
  · rw [if_neg (by simp [eqI, hc]), Option.bind_some]
    simp [hc]
  · rw [if_pos (by simp [eqI, hc]), price_idx hv hk]
    simp only [Option.bind_some, b1, b2, c1, c2]
    congr 1
    rw [Bool.eq_iff_iff]
    simp [eqI, hc]
theorem find_map {α β : Type} {l : List Nat} {g : Nat → Option α} {h : α → β} : (l.findSome? fun n => (g n).map h) = (l.findSome? g).map h := by
  induction l with
  | nil => rfl
  | cons x l ih => rw [List.findSome?_cons, List.findSome?_cons, ih]; cases g x <;> rfl
theorem inner16 (hv : Valid s) (hT : TabOk s T 0) {k : Nat} (hk : k < s.need_.length) {v : Int} (h0 : 0 ≤ v) (h1 : v ≤ s.store_) {l : List Int} (hl : l.length ≤ 24) :
    loopO (g16_L2 s (k : Int) v T l) 0 = some (match firstT s T k v with | some z => (z.2, l ++ [z.1]) | none => (v, l)) := by
  have m0 := hv.most0
  have m1 := hv.most1
  have := loop_scan (body := g16_L2 s (k : Int) v T l) (n := s.most_.toNat + 1) (fun (n : Nat) => (match aft s k v (n : Int) with
    | none => (none : Option (Int × Int))
    | some v' => if cellAt T (k + 1) v' ≠ -1 ∧ pr s k * (n : Int) + cellAt T (k + 1) v' = cellAt T k v then some ((n : Int), v') else none).map fun (z : Int × Int) => (z.2, l ++ [z.1])) (v, l) (fun n hn => by
    have hx : (n : Int) ≤ s.most_ := by omega
    rw [g16_L2, if_pos (by rw [aI64 (by omega) (by omega)]; simp [ltI]; omega), g37_eq hv hk h0 h1 (by omega) hx, Option.bind_some]
    cases ha : aft s k v n with
    | none => simp [succI (i := n) (by omega)]
    | some v' =>
      simp only [if_true]
      rw [test_some hv hT hk h0 h1 (by omega) hx ha]
      by_cases hc : cellAt T (k + 1) v' ≠ -1 ∧ pr s k * (n : Int) + cellAt T (k + 1) v' = cellAt T k v
      · rw [if_pos (by simpa using hc), if_pos hc, appK_of (by simp; omega) (by simp; omega)]
        rfl
      · rw [if_neg (by simpa using hc), if_neg hc, succI (by omega)]
        rfl) (by rw [g16_L2, if_neg (by rw [aI64 (by omega) (by omega)]; simp [ltI]; omega)])
  rw [this, find_map]
  unfold firstT
  cases (List.range (s.most_.toNat + 1)).findSome? _ <;> rfl
theorem inner38 (hv : Valid s) (hT : TabOk s T 0) {k : Nat} (hk : k < s.need_.length) {v : Int} (h0 : 0 ≤ v) (h1 : v ≤ s.store_) {l : List Int} (hl : l.length ≤ 24) :
    loopO (g38_L2 s (k : Int) v T l) 0 = some (match firstT s T k v with | some z => (z.2, l ++ [z.1]) | none => (v, l)) := by
  have m0 := hv.most0
  have m1 := hv.most1
  have := loop_scan (body := g38_L2 s (k : Int) v T l) (n := s.most_.toNat + 1) (fun (n : Nat) => (match aft s k v (n : Int) with
    | none => (none : Option (Int × Int))
    | some v' => if cellAt T (k + 1) v' ≠ -1 ∧ pr s k * (n : Int) + cellAt T (k + 1) v' = cellAt T k v then some ((n : Int), v') else none).map fun (z : Int × Int) => (z.2, l ++ [z.1])) (v, l) (fun n hn => by
    have hx : (n : Int) ≤ s.most_ := by omega
    rw [g38_L2, if_pos (by simp [leI]; omega), g45_eq hv hk h0 h1 (by omega) hx, Option.bind_some]
    cases ha : aft s k v n with
    | none => simp [leI, succI (i := n) (by omega)]
    | some v' =>
      have hr := aft_range hv ha
      simp only
      rw [if_pos (by simp [leI]; omega), test_some hv hT hk h0 h1 (by omega) hx ha]
      by_cases hc : cellAt T (k + 1) v' ≠ -1 ∧ pr s k * (n : Int) + cellAt T (k + 1) v' = cellAt T k v
      · rw [if_pos (by simpa using hc), if_pos hc, appK_of (by simp; omega) (by simp; omega)]
        rfl
      · rw [if_neg (by simpa using hc), if_neg hc, succI (by omega)]
        rfl) (by rw [g38_L2, if_neg (by simp [leI]; omega)])
  rw [this, find_map]
  unfold firstT
  cases (List.range (s.most_.toNat + 1)).findSome? _ <;> rfl
theorem steps_succ (hv : Valid s) (hT : TabOk s T 0) (hc : cellAt T 0 s.first_ ≠ -1) {i : Nat} (hi : i < s.need_.length) : (match firstT s T i (stepsB s T i).1 with | some z => (z.2, (stepsB s T i).2 ++ [z.1]) | none => ((stepsB s T i).1, (stepsB s T i).2)) = stepsB s T (i + 1) := by
  show _ = (match firstT s T i (stepsB s T i).1 with | some z => (z.2, (stepsB s T i).2 ++ [z.1]) | none => stepsB s T i)
  cases firstT s T i (stepsB s T i).1 <;> rfl
theorem outer16 (hv : Valid s) (hT : TabOk s T 0) (hc : cellAt T 0 s.first_ ≠ -1) : loopO (g16_L1 s T) (s.first_, 0, []) = some (stepsB s T s.need_.length).2 := by
  have n2 := hv.n2
  have := loop_run (body := g16_L1 s T) (fun i => ((stepsB s T i).1, (i : Int), (stepsB s T i).2)) s.need_.length (fun i hi => by
    obtain ⟨⟨a0, a1⟩, a2, a3, a4, a5⟩ := steps_ok hv hT hc i (by omega)
    rw [g16_L1, if_pos (by simp [ltI]; omega), inner16 hv hT hi a0 a1 (by omega), steps_succ hv hT hc hi, Option.bind_some]
    unfold g16_j2
    rw [succI (by omega)]) (r := (stepsB s T s.need_.length).2) (by rw [g16_L1, if_neg (by simp [ltI])])
  exact this
theorem outer38 (hv : Valid s) (hT : TabOk s T 0) (hc : cellAt T 0 s.first_ ≠ -1) : loopO (g38_L1 s T) (s.first_, 0, []) = some (stepsB s T s.need_.length).2 := by
  have n2 := hv.n2
  have := loop_run (body := g38_L1 s T) (fun i => ((stepsB s T i).1, (i : Int), (stepsB s T i).2)) s.need_.length (fun i hi => by
    obtain ⟨⟨a0, a1⟩, a2, a3, a4, a5⟩ := steps_ok hv hT hc i (by omega)
    rw [g38_L1, if_pos (by simp [ltI]; omega), inner38 hv hT hi a0 a1 (by omega), steps_succ hv hT hc hi, Option.bind_some]
    unfold g38_j2
    rw [succI (by omega)]) (r := (stepsB s T s.need_.length).2) (by rw [g38_L1, if_neg (by simp [ltI])])
  exact this

theorem small_of (hv : Valid s) : Small s := by have := hv.n2; have := hv.pl; exact ⟨by omega, by omega⟩
theorem val27 (hv : Valid s) : g27 s = some true := by
  obtain ⟨b, e, h⟩ := g27_eq (small_of hv)
  rw [e, h.2 hv]
theorem val30 (hv : Valid s) : g30 s = some true := by
  obtain ⟨b, e, h⟩ := g30_eq (small_of hv)
  rw [e, h.2 hv]
/-- The table, told by both. -/
theorem values_of (hv : Valid s) : ∃ T, g28 s = some T ∧ g31 s = some T ∧ TabOk s T 0 ∧ g6 s = some (T, 0) ∧ g8 s = some (T, 0) := by
  obtain ⟨T, t1, hT⟩ := tab_ok hv
  obtain ⟨T2, t2, t3, hR⟩ := values_eq hv
  have h28 : g28 s = some T ∧ g31 s = some T := by
    first
    | (rw [t1] at t2; cases t2; exact ⟨t3, t1⟩)
    | (rw [t1] at t3; cases t3; exact ⟨t1, t2⟩)
  refine ⟨T, h28.1, h28.2, hT, ?_, ?_⟩
  · unfold g6
    rw [val27 hv, Option.bind_some, if_neg (by simp), h28.1]
    rfl
  · unfold g8
    rw [val30 hv, Option.bind_some, if_neg (by simp), h28.2]
    rfl
theorem best16 (hv : Valid s) (hT : TabOk s T 0) (h31 : g31 s = some T) : g16 s = some (if cellAt T 0 s.first_ = -1 then ([], 0, 6) else ((stepsB s T s.need_.length).2, cellAt T 0 s.first_, 0)) := by
  obtain ⟨row, a1, a2, _⟩ := tab_idx hT.rows (k := 0) (by omega) hv.first0 hv.first1
  replace a1 : idx T 0 = some row := a1
  unfold g16
  rw [val30 hv, Option.bind_some, if_neg (by simp), h31, Option.bind_some, a1, Option.bind_some, a2, Option.bind_some]
  by_cases hc : cellAt T 0 s.first_ = -1
  · rw [if_pos (by simp [eqI, hc]), if_pos hc]
  · rw [if_neg (by simp [eqI, hc]), if_neg hc, outer16 hv hT hc, Option.bind_some]
    unfold g16_j1
    rw [a1, Option.bind_some, a2, Option.bind_some]
theorem best17 (hv : Valid s) (hT : TabOk s T 0) (h28 : g28 s = some T) : g17 s = some (if cellAt T 0 s.first_ = -1 then ([], 0, 6) else ((stepsB s T s.need_.length).2, cellAt T 0 s.first_, 0)) := by
  obtain ⟨row, a1, a2, _⟩ := tab_idx hT.rows (k := 0) (by omega) hv.first0 hv.first1
  replace a1 : idx T 0 = some row := a1
  unfold g17 g38
  rw [val27 hv, Option.bind_some, if_neg (by simp), h28, Option.bind_some, a1, Option.bind_some, a2, Option.bind_some]
  by_cases hc : cellAt T 0 s.first_ = -1
  · rw [if_pos (by simp [eqI, hc]), if_pos hc]
    simp [eqI, hc]
  · rw [if_neg (by simp [eqI, hc]), if_neg hc, outer38 hv hT hc, Option.bind_some]
    unfold g38_j1
    simp [eqI, hc]
end
end Go.Proofs.Ytboeddbhfnlpaaa
namespace Go.Proofs.Ytboeddbhfnlpaaa
open Go.VL
set_option linter.unusedSimpArgs false
set_option linter.unusedVariables false
set_option maxHeartbeats 4000000
section
variable {s : T23} {T : List (List Int)}

/-! ### What a plan costs -/
def sumC (s : T23) : Nat → List Int → Int
  | _, [] => 0
  | k, x :: p => pr s k * x + sumC s (k + 1) p
theorem feas_sum : ∀ (p : List Int) (k : Nat) (v c : Int), feas s k v p = some c → c = sumC s k p
  | [], k, v, c, h => by cases h; rfl
  | x :: p, k, v, c, h => by
    obtain ⟨v', c', _, hf, rfl⟩ := feas_cons h
    rw [feas_sum p (k + 1) v' c' hf]
    rfl
theorem sum_bnd (hv : Valid s) : ∀ (p : List Int) (k : Nat), k + p.length ≤ s.need_.length → Bnd s p → 0 ≤ sumC s k p ∧ sumC s k p ≤ 20000 * (p.length : Int)
  | [], _, _, _ => by simp [sumC]
  | x :: p, k, hk, hb => by
    have hx := hb x (by simp)
    have hk' : k < s.need_.length := by simp at hk; omega
    obtain ⟨p0, p1⟩ := pr_bnd hv hk'
    have := hv.most1
    obtain ⟨m0, m1⟩ := mul_bnd (A := 1000) (B := 20) p0 p1 hx.1 (by omega)
    have := sum_bnd hv p (k + 1) (by simp at hk; omega) (fun y hy => hb y (by simp [hy]))
    unfold sumC
    simp
    omega
theorem plan52 (hv : Valid s) {plan : List Int} (hl : plan.length = s.need_.length) (hb : Bnd s plan) : g52 s plan = some 0 := by
  have n2 := hv.n2
  have := loop_run (body := g52_L1 plan s) (fun i => (i : Int)) plan.length (fun i hi => by
    have hx := hb _ (List.getElem_mem hi)
    rw [g52_L1, if_pos (by simp [ltI]; omega), idx_nat hi, Option.bind_some, if_neg (by simp [ltI]; omega), succI (by omega)]) (r := .inl ()) (by rw [g52_L1, if_neg (by simp [ltI])])
  have h0 : loopO (g52_L1 plan s) 0 = some (.inl ()) := this
  unfold g52
  rw [val30 hv, Option.bind_some, if_neg (by simp), if_neg (by simp [eqI, hl]), h0]
  rfl
theorem stores49 (hv : Valid s) {plan : List Int} (hl : plan.length = s.need_.length) (hb : Bnd s plan) {c : Int} (hf : feas s 0 s.first_ plan = some c) : ∃ l, g49 s plan = some (l, 0) := by
  have n2 := hv.n2
  obtain ⟨r, e, hr⟩ := loopO_rule (body := g49_L1 plan s) (fun st => plan.length - st.2.1.toNat) (fun st => ∃ (q : Nat) (v : Int) (l : List Int), st = (v, (q : Int), l) ∧ q ≤ plan.length ∧ (0 ≤ v ∧ v ≤ s.store_) ∧ l.length = q ∧ ∃ c, feas s q v (plan.drop q) = some c)
    (fun r => ∃ l, r = .inl l) (fun st ⟨q, v, l, e, hq, hv', hl', c, hc⟩ => by
    subst e
    rw [g49_L1]
    by_cases hqn : q < plan.length
    · rw [List.drop_eq_getElem_cons hqn] at hc
      obtain ⟨v', c', ha, hf', _⟩ := feas_cons hc
      have hx := hb _ (List.getElem_mem hqn)
      rw [if_pos (by simp [ltI]; omega), idx_nat hqn, Option.bind_some, g37_eq hv (by omega) hv'.1 hv'.2 hx.1 hx.2, Option.bind_some, ha]
      simp only
      rw [if_neg (by simp), appK_of (by simp; omega) (by simp; omega), Option.bind_some, succI (by omega)]
      exact .inl ⟨_, rfl, ⟨q + 1, v', _, rfl, by omega, aft_range hv ha, by simp [hl'], c', hf'⟩, by simp only; omega⟩
    · right
      rw [if_neg (by simp [ltI]; omega)]
      exact ⟨_, rfl, l, rfl⟩) (s := (s.first_, 0, [])) ⟨0, s.first_, [], rfl, by omega, ⟨hv.first0, hv.first1⟩, rfl, c, by simpa using hf⟩
  obtain ⟨l, rfl⟩ := hr
  unfold g49
  rw [plan52 hv hl hb, Option.bind_some, if_neg (by simp [eqI]), e]
  exact ⟨l, rfl⟩
theorem cost42 (hv : Valid s) {plan : List Int} (hl : plan.length = s.need_.length) (hb : Bnd s plan) {c : Int} (hf : feas s 0 s.first_ plan = some c) : g42 s plan = some (c, 0) ∧ 0 ≤ c ∧ c ≤ 480000 := by
  have n2 := hv.n2
  have hpl := hv.pl
  obtain ⟨l, e49⟩ := stores49 hv hl hb hf
  have hcs := feas_sum plan 0 s.first_ c hf
  have hsb := sum_bnd hv plan 0 (by omega) hb
  obtain ⟨r, e, hr⟩ := loopO_rule (body := g42_L1 plan s) (fun st => plan.length - st.2.toNat) (fun st => ∃ (q : Nat) (a : Int), st = (a, (q : Int)) ∧ q ≤ plan.length ∧ 0 ≤ a ∧ a + sumC s q (plan.drop q) = c)
    (fun r => r = c) (fun st ⟨q, a, e, hq, ha, hc⟩ => by
    subst e
    rw [g42_L1]
    by_cases hqn : q < plan.length
    · rw [List.drop_eq_getElem_cons hqn] at hc
      have hx := hb _ (List.getElem_mem hqn)
      obtain ⟨p0, p1⟩ := pr_bnd hv (i := q) (by omega)
      have := hv.most1
      obtain ⟨m0, m1⟩ := mul_bnd (A := 1000) (B := 20) p0 p1 hx.1 (by omega)
      have hrest := sum_bnd hv (plan.drop (q + 1)) (q + 1) (by simp; omega) (fun y hy => hb y (List.mem_of_mem_drop hy))
      unfold sumC at hc
      rw [if_pos (by simp [ltI]; omega), idx_nat hqn, Option.bind_some, price_idx hv (by omega), Option.bind_some, mI64 (by omega) (by omega), aI64 (by omega) (by omega), succI (by omega)]
      exact .inl ⟨_, rfl, ⟨q + 1, _, rfl, by omega, by omega, by omega⟩, by simp only; omega⟩
    · right
      rw [if_neg (by simp [ltI]; omega)]
      rw [List.drop_of_length_le (by omega)] at hc
      unfold sumC at hc
      exact ⟨_, rfl, by omega⟩) (s := (0, 0)) ⟨0, 0, rfl, by omega, by omega, by simp; omega⟩
  refine ⟨?_, by omega, by omega⟩
  unfold g42
  rw [e49, Option.bind_some, if_neg (by simp [eqI]), e, Option.bind_some, hr]
  rfl
theorem regret23 (hv : Valid s) (hT : TabOk s T 0) (h31 : g31 s = some T) {plan : List Int} (hl : plan.length = s.need_.length) (hb : Bnd s plan) {c : Int} (hf : feas s 0 s.first_ plan = some c) : g23 s plan = some (c - cellAt T 0 s.first_, 0) := by
  obtain ⟨row, a1, a2, _⟩ := tab_idx hT.rows (k := 0) (by omega) hv.first0 hv.first1
  replace a1 : idx T 0 = some row := a1
  obtain ⟨e42, c0, c1⟩ := cost42 hv hl hb hf
  have := cell_bnd hv hT (k := 0) (by omega) hv.first0 hv.first1
  unfold g23
  rw [e42, Option.bind_some, if_neg (by simp [eqI]), h31, Option.bind_some, a1, Option.bind_some, a2, Option.bind_some, sI64 (by omega) (by omega)]

/-! ### Tables -/
theorem table40 (hv : Valid s) {U : List (List Int)} (hR : Rows s U 0) (h1 : ∀ k : Nat, k ≤ s.need_.length → ∀ v, 0 ≤ v → v ≤ s.store_ → -1 ≤ cellAt U k v) (h2 : ∀ v, 0 ≤ v → v ≤ s.store_ → cellAt U s.need_.length v = 0) : g40 s U = some true := by
  have n2 := hv.n2
  have s0 := hv.store0
  have s1 := hv.store1
  have hn1 : aI .i64 (s.need_.length : Int) 1 = ((s.need_.length + 1 : Nat) : Int) := succI (by omega)
  have hs1 : aI .i64 s.store_ 1 = s.store_ + 1 := aI64 (by omega) (by omega)
  have hUl := hR.1
  have hL : loopO (g40_L1 U s) 0 = some (.inl ()) := by
    have := loop_run (body := g40_L1 U s) (fun i => (i : Int)) U.length (fun k hk => by
      have hrl := hR.2 k hk (Nat.zero_le _)
      have hin : loopO (g40_L2 U[k] (k : Int) s) 0 = some (.inl ()) := by
        have := loop_run (body := g40_L2 U[k] (k : Int) s) (fun i => (i : Int)) U[k].length (fun i hi => by
          have hc : U[k][i] = cellAt U k (i : Int) := by
            have := cellAt_eq (T := U) (k := k) (v := (i : Int)) hk (by simpa using hi)
            simpa using this
          have hb1 := h1 k (by omega) (i : Int) (by omega) (by omega)
          rw [g40_L2, if_pos (by simp [ltI]; omega), idx_nat hi, Option.bind_some, hc]
          by_cases hkn : k = s.need_.length
          · have hb2 := h2 (i : Int) (by omega) (by omega)
            rw [← hkn] at hb2
            rw [hb2, if_neg (by simp [ltI, eqI]), succI (by omega)]
          · rw [if_neg (by simp [ltI, eqI]; omega), succI (by omega)]) (r := .inl ()) (by rw [g40_L2, if_neg (by simp [ltI])])
        exact this
      rw [g40_L1, if_pos (by simp [ltI]; omega), idx_nat hk, Option.bind_some, if_neg (by rw [hs1, hrl]; simp [eqI]; omega), hin, Option.bind_some]
      unfold g40_j2
      rw [succI (by omega)]) (r := .inl ()) (by rw [g40_L1, if_neg (by simp [ltI])])
    exact this
  unfold g40
  rw [if_neg (by rw [hn1, hUl]; simp [eqI]), hL]
  rfl

/-! ### Flaws -/
def flawB (s : T23) (U : List (List Int)) (k : Nat) (i x : Int) : Bool := match aft s k i x with
  | none => false
  | some v => (cellAt U k i == -1 && !(cellAt U (k + 1) v == -1)) || ((!(cellAt U k i == -1) && !(cellAt U (k + 1) v == -1)) && (decide (cellAt U (k + 1) v < cellAt U k i) && decide (pr s k * x < cellAt U k i - cellAt U (k + 1) v)))
theorem flaw_step (hv : Valid s) {U : List (List Int)} (hR : Rows s U 0) (hU : ∀ k : Nat, k ≤ s.need_.length → ∀ v, 0 ≤ v → v ≤ s.store_ → -1 ≤ cellAt U k v ∧ cellAt U k v ≤ 1000000) {k : Nat} (hk : k < s.need_.length) {i x : Int} (i0 : 0 ≤ i) (i1 : i ≤ s.store_) (n : Nat) (hx : (n : Int) ≤ s.most_) :
    g41_L3 s (k : Int) i U (cellAt U k i) (n : Int) = some (if flawB s U k i n = true then .inr (.inr (.inr (.inr (.inr (.inr ((k : Int), i, (n : Int), true)))))) else .inl ((n + 1 : Nat) : Int)) := by
  have m1 := hv.most1
  have m0 := hv.most0
  have n2 := hv.n2
  rw [g41_L3, if_pos (by rw [aI64 (by omega) (by omega)]; simp [ltI]; omega), g37_eq hv hk i0 i1 (by omega) hx, Option.bind_some]
  unfold flawB
  cases ha : aft s k i n with
  | none =>
    simp only
    rw [if_pos (by simp), if_neg (by simp), succI (by omega)]
  | some v =>
    have hr := aft_range hv ha
    obtain ⟨row1, a1, a2, _⟩ := tab_idx hR (k := k + 1) (by omega) hr.1 hr.2
    obtain ⟨p0, p1⟩ := pr_bnd hv hk
    obtain ⟨q0, q1⟩ := mul_bnd (A := 1000) (B := 20) p0 p1 (show (0 : Int) ≤ (n : Int) by omega) (show (n : Int) ≤ 20 by omega)
    have u0 := hU k (by omega) i i0 i1
    have u1 := hU (k + 1) (by omega) v hr.1 hr.2
    simp only
    rw [if_neg (by simp), succI (by omega), a1, Option.bind_some, a2, Option.bind_some, price_idx hv hk]
    simp only [Option.bind_some]
    rw [mI64 (by omega) (by omega), sI64 (by omega) (by omega), succI (i := n) (by omega)]
    simp only [eqI, ltI]
    rcases Bool.eq_false_or_eq_true (cellAt U k i == -1) with h1 | h1 <;> rcases Bool.eq_false_or_eq_true (cellAt U (k + 1) v == -1) with h2 | h2 <;> rcases Bool.eq_false_or_eq_true (decide (cellAt U (k + 1) v < cellAt U k i)) with h3 | h3 <;> rcases Bool.eq_false_or_eq_true (decide (pr s k * (n : Int) < cellAt U k i - cellAt U (k + 1) v)) with h4 | h4 <;> simp only [h1, h2, h3, h4] <;> rfl
theorem flaw_none (hv : Valid s) {U : List (List Int)} (hR : Rows s U 0) (hU : ∀ k : Nat, k ≤ s.need_.length → ∀ v, 0 ≤ v → v ≤ s.store_ → -1 ≤ cellAt U k v ∧ cellAt U k v ≤ 1000000) {k : Nat} (hk : k < s.need_.length) {i : Int} (i0 : 0 ≤ i) (i1 : i ≤ s.store_) (h : ∀ n : Nat, (n : Int) ≤ s.most_ → flawB s U k i n = false) :
    loopO (g41_L3 s (k : Int) i U (cellAt U k i)) 0 = some (.inl ()) := by
  have m1 := hv.most1
  have m0 := hv.most0
  have := loop_run (body := g41_L3 s (k : Int) i U (cellAt U k i)) (fun i => (i : Int)) (s.most_.toNat + 1) (fun n hn => by
    rw [flaw_step hv hR hU hk (x := 0) i0 i1 n (by omega), h n (by omega)]
    rfl) (r := .inl ()) (by rw [g41_L3, if_neg (by rw [aI64 (by omega) (by omega)]; simp [ltI]; omega)])
  exact this
theorem flaw_some (hv : Valid s) {U : List (List Int)} (hR : Rows s U 0) (hU : ∀ k : Nat, k ≤ s.need_.length → ∀ v, 0 ≤ v → v ≤ s.store_ → -1 ≤ cellAt U k v ∧ cellAt U k v ≤ 1000000) {k : Nat} (hk : k < s.need_.length) {i : Int} (i0 : 0 ≤ i) (i1 : i ≤ s.store_) {n : Nat} (hn : (n : Int) ≤ s.most_) (h : flawB s U k i n = true) :
    ∃ x : Int, loopO (g41_L3 s (k : Int) i U (cellAt U k i)) 0 = some (.inr (.inr (.inr (.inr (.inr ((k : Int), i, x, true)))))) := by
  have m1 := hv.most1
  have m0 := hv.most0
  have := loop_scan (body := g41_L3 s (k : Int) i U (cellAt U k i)) (n := s.most_.toNat + 1) (fun (m : Nat) => if flawB s U k i (m : Int) = true then some (.inr (.inr (.inr (.inr (.inr ((k : Int), i, (m : Int), true)))))) else none) (.inl ()) (fun m hm => by
    rw [flaw_step hv hR hU hk (x := 0) i0 i1 m (by omega)]
    split <;> simp_all) (by rw [g41_L3, if_neg (by rw [aI64 (by omega) (by omega)]; simp [ltI]; omega)])
  rw [this]
  cases hf : (List.range (s.most_.toNat + 1)).findSome? (fun (m : Nat) => if flawB s U k i (m : Int) = true then some (.inr (.inr (.inr (.inr (.inr ((k : Int), i, (m : Int), true))))) : Unit ⊕ (Int ⊕ (Unit ⊕ (Int ⊕ (Unit ⊕ (Int × Int × Int × Bool)))))) else none) with
  | none =>
    exfalso
    have := range_none.1 hf n (by omega)
    rw [if_pos h] at this
    cases this
  | some r =>
    obtain ⟨m, _, h2, _⟩ := range_some hf
    split at h2
    · cases h2
      exact ⟨m, rfl⟩
    · cases h2
theorem row_idx {U : List (List Int)} (hR : Rows s U 0) {k : Nat} (hk : k ≤ s.need_.length) : ∃ row, idx U (k : Int) = some row ∧ row.length = s.store_.toNat + 1 ∧ ∀ v : Nat, (v : Int) ≤ s.store_ → idx row (v : Int) = some (cellAt U k v) := by
  have hk' : k < U.length := by rw [hR.1]; omega
  have hl := hR.2 k hk' (Nat.zero_le _)
  refine ⟨U[k], idx_nat hk', hl, fun v hv => ?_⟩
  have hv' : v < U[k].length := by rw [hl]; omega
  rw [idx_nat hv']
  have := cellAt_eq (T := U) (k := k) (v := (v : Int)) hk' (by simpa using hv')
  simpa using this
/-- The table of values has no flaw. -/
theorem no_flaw (hv : Valid s) (hT : TabOk s T 0) {k : Nat} (hk : k < s.need_.length) {i : Int} (i0 : 0 ≤ i) (i1 : i ≤ s.store_) (n : Nat) (hn : (n : Int) ≤ s.most_) : flawB s T k i n = false := by
  unfold flawB
  cases ha : aft s k i n with
  | none => rfl
  | some v =>
    simp only
    by_cases hc : cellAt T (k + 1) v = -1
    · simp [hc]
    · obtain ⟨l1, l2⟩ := (hT.cell k (by omega) hk i i0 i1).low n v (by omega) (by omega) ha hc
      rw [Bool.eq_false_iff]
      simp [hc, l1]
      omega
theorem cells_ok (hv : Valid s) (hT : TabOk s T 0) : ∀ k : Nat, k ≤ s.need_.length → ∀ v, 0 ≤ v → v ≤ s.store_ → -1 ≤ cellAt T k v ∧ cellAt T k v ≤ 1000000 := fun k hk v h0 h1 => by
  have := cell_bnd hv hT hk h0 h1
  omega
theorem flaw41 (hv : Valid s) (hT : TabOk s T 0) : g41 s T = some (0, 0, 0, false) := by
  have n2 := hv.n2
  have s0 := hv.store0
  have s1 := hv.store1
  have := loop_run (body := g41_L1 s T) (fun i => (i : Int)) s.need_.length (fun k hk => by
    obtain ⟨row, a1, a2, a3⟩ := row_idx hT.rows (k := k) (by omega)
    have hin : loopO (g41_L2 row s (k : Int) T) 0 = some (.inl ()) := by
      have := loop_run (body := g41_L2 row s (k : Int) T) (fun i => (i : Int)) row.length (fun i hi => by
        rw [g41_L2, if_pos (by simp [ltI]; omega), a3 i (by omega), Option.bind_some, flaw_none hv hT.rows (cells_ok hv hT) hk (by omega) (by omega) (fun n hn => no_flaw hv hT hk (by omega) (by omega) n hn), Option.bind_some]
        unfold g41_j3
        rw [succI (by omega)]) (r := .inl ()) (by rw [g41_L2, if_neg (by simp [ltI])])
      exact this
    rw [g41_L1, if_pos (by simp [ltI]; omega), a1, Option.bind_some, hin, Option.bind_some]
    unfold g41_j2
    rw [succI (by omega)]) (r := .inl ()) (by rw [g41_L1, if_neg (by simp [ltI])])
  have h0 : loopO (g41_L1 s T) 0 = some (.inl ()) := this
  unfold g41
  rw [h0]
  rfl
theorem tab40 (hv : Valid s) (hT : TabOk s T 0) : g40 s T = some true := table40 hv hT.rows (fun k hk v h0 h1 => (cells_ok hv hT k hk v h0 h1).1) hT.last
theorem first21 (hv : Valid s) (hT : TabOk s T 0) : g21 s T = some (0, 0, 0, 6) := by
  unfold g21
  rw [val30 hv, Option.bind_some, if_neg (by simp), tab40 hv hT, Option.bind_some, if_neg (by simp), flaw41 hv hT, Option.bind_some, if_pos (by simp)]
theorem cert22 (hv : Valid s) (hT : TabOk s T 0) {plan : List Int} (hl : plan.length = s.need_.length) (hb : Bnd s plan) {c : Int} (hf : feas s 0 s.first_ plan = some c) : g22 s plan T = some (eqI c (cellAt T 0 s.first_), 0) := by
  obtain ⟨row, a1, a2, _⟩ := tab_idx hT.rows (k := 0) (by omega) hv.first0 hv.first1
  replace a1 : idx T 0 = some row := a1
  obtain ⟨e42, _⟩ := cost42 hv hl hb hf
  unfold g22
  rw [e42, Option.bind_some, if_neg (by simp [eqI]), tab40 hv hT, Option.bind_some, if_neg (by simp), flaw41 hv hT, Option.bind_some, if_pos (by simp), a1, Option.bind_some, a2, Option.bind_some, Option.bind_some]

/-! ### A number that is raised -/
def raise (T : List (List Int)) (v : Int) : List (List Int) := T.set 0 ((T.getD 0 []).set v.toNat (cellAt T 0 v + 1))
theorem raise_cell (hv : Valid s) (hR : Rows s T 0) {v : Int} (h0 : 0 ≤ v) (h1 : v ≤ s.store_) (k : Nat) (w : Int) (w0 : 0 ≤ w) : cellAt (raise T v) k w = if k = 0 ∧ w = v then cellAt T 0 v + 1 else cellAt T k w := by
  have hT0 : 0 < T.length := by rw [hR.1]; omega
  have hl := hR.2 0 hT0 (Nat.le_refl _)
  unfold raise
  by_cases hk : k = 0
  · subst hk
    rw [cellAt_same hT0]
    have hd : T.getD 0 [] = T[0] := by simp [List.getD, hT0]
    rw [hd]
    by_cases hw : w = v
    · subst hw
      rw [if_pos ⟨rfl, rfl⟩]
      simp [List.getD, hl, show w.toNat < s.store_.toNat + 1 by omega]
    · rw [if_neg (fun h => hw h.2)]
      have : v.toNat ≠ w.toNat := by omega
      simp [List.getD, cellAt, List.getElem?_set, this, hT0]
  · rw [if_neg (fun h => hk h.1), cellAt_set (fun h => hk h.symm)]
theorem raise_rows (hR : Rows s T 0) (v : Int) : Rows s (raise T v) 0 := by
  have hT0 : 0 < T.length := by rw [hR.1]; omega
  have hl := hR.2 0 hT0 (Nat.le_refl _)
  refine ⟨by simp [raise, hR.1], fun j hj _ => ?_⟩
  have hj' : j < T.length := by simpa [raise] using hj
  simp only [raise]
  rw [List.getElem_set]
  split
  · have hd : T.getD 0 [] = T[0] := by simp [List.getD, hT0]
    rw [hd, List.length_set, hl]
  · exact hR.2 j hj' (Nat.zero_le _)
theorem raised41 (hv : Valid s) (hT : TabOk s T 0) (hc : cellAt T 0 s.first_ ≠ -1) : g40 s (raise T s.first_) = some true ∧ ∃ x, g41 s (raise T s.first_) = some (0, s.first_, x, true) := by
  have n1 := hv.n1
  have n2 := hv.n2
  have s0 := hv.store0
  have s1 := hv.store1
  have f0 := hv.first0
  have f1 := hv.first1
  have hR := hT.rows
  have hRu := raise_rows hR s.first_
  have hcell := raise_cell hv hR f0 f1
  have hU : ∀ k : Nat, k ≤ s.need_.length → ∀ v, 0 ≤ v → v ≤ s.store_ → -1 ≤ cellAt (raise T s.first_) k v ∧ cellAt (raise T s.first_) k v ≤ 1000000 := fun k hk v h0 h1 => by
    rw [hcell k v h0]
    have a1 := cell_bnd hv hT hk h0 h1
    have a2 := cell_bnd hv hT (k := 0) (by omega) f0 f1
    split <;> omega
  refine ⟨table40 hv hRu (fun k hk v h0 h1 => (hU k hk v h0 h1).1) (fun v h0 h1 => by rw [hcell _ v h0, if_neg (fun h => by omega)]; exact hT.last v h0 h1), ?_⟩
  obtain ⟨f, hf⟩ := Int.eq_ofNat_of_zero_le f0
  obtain ⟨x, v', x0, x1, t1, t2, t3⟩ := tight_ex hT (k := 0) (by omega) f0 f1 hc
  obtain ⟨xn, hxn⟩ := Int.eq_ofNat_of_zero_le x0
  subst hxn
  have hr := aft_range hv t1
  have hfl : flawB s (raise T s.first_) 0 s.first_ (xn : Int) = true := by
    unfold flawB
    rw [t1]
    simp only
    rw [hcell 0 s.first_ f0, if_pos ⟨rfl, rfl⟩, hcell 1 v' hr.1, if_neg (by simp)]
    have hb := cell_bnd hv hT (k := 0) (by omega) f0 f1
    obtain ⟨p0, p1⟩ := pr_bnd hv (i := 0) (by omega)
    have hm := Int.mul_nonneg p0 x0
    simp only [Nat.zero_add] at t2 t3
    have h1 : (cellAt T 0 s.first_ + 1 == -1) = false := by simp; omega
    have h2 : (cellAt T 1 v' == -1) = false := by simpa using t2
    rw [h1, h2]
    simp
    omega
  obtain ⟨y, hy⟩ := flaw_some hv hRu hU (k := 0) (by omega) f0 f1 x1 hfl
  obtain ⟨row, a1, a2, a3⟩ := row_idx hRu (k := 0) (by omega)
  have hin : loopO (g41_L2 row s 0 (raise T s.first_)) 0 = some (.inr (.inr (.inr (0, s.first_, y, true)))) := by
    have := loop_run (body := g41_L2 row s 0 (raise T s.first_)) (fun i => (i : Int)) f (fun i hi => by
      have hz := flaw_none hv hRu hU (k := 0) (i := (i : Int)) (by omega) (by omega) (by omega) (fun n hn => by
        have h := no_flaw hv hT (k := 0) (i := (i : Int)) (by omega) (by omega) (by omega) n hn
        unfold flawB at h ⊢
        cases ha : aft s 0 (i : Int) n with
        | none => rfl
        | some v =>
          have hrv := aft_range hv ha
          rw [ha] at h
          simp only at h ⊢
          rw [hcell 0 (i : Int) (by omega), if_neg (fun h => by omega), hcell (0 + 1) v hrv.1, if_neg (fun h => by omega)]
          exact h)
      rw [g41_L2, if_pos (by simp [ltI]; omega), a3 i (by omega), Option.bind_some]
      have hz' : loopO (g41_L3 s 0 (i : Int) (raise T s.first_) (cellAt (raise T s.first_) 0 (i : Int))) 0 = some (.inl ()) := hz
      rw [hz', Option.bind_some]
      unfold g41_j3
      rw [succI (by omega)]) (r := .inr (.inr (.inr (0, s.first_, y, true)))) (by
      rw [g41_L2, if_pos (by simp [ltI]; omega), a3 f (by omega), Option.bind_some, ← hf]
      have hy' : loopO (g41_L3 s 0 s.first_ (raise T s.first_) (cellAt (raise T s.first_) 0 s.first_)) 0 = _ := hy
      rw [hy']
      rfl)
    exact this
  have h0 : loopO (g41_L1 s (raise T s.first_)) 0 = some (.inr (0, s.first_, y, true)) := by
    have := loop_run (body := g41_L1 s (raise T s.first_)) (fun i => (i : Int)) 0 (fun i hi => by omega) (r := .inr (0, s.first_, y, true)) (by
      have a1' : idx (raise T s.first_) ((0 : Nat) : Int) = some row := a1
      rw [g41_L1, if_pos (by simp [ltI]; omega), a1', Option.bind_some]
      have hin' : loopO (g41_L2 row s ((0 : Nat) : Int) (raise T s.first_)) 0 = _ := hin
      rw [hin']
      rfl)
    exact this
  unfold g41
  rw [h0]
  exact ⟨y, rfl⟩
end
end Go.Proofs.Ytboeddbhfnlpaaa
namespace Go.Proofs.Ytboeddbhfnlpaaa
open Go.VL
set_option linter.unusedSimpArgs false
set_option linter.unusedVariables false
set_option maxHeartbeats 4000000
section
variable {s : T23} {T : List (List Int)}

/-- A plan from a slot on that costs the least. -/
def Opt (s : T23) (T : List (List Int)) (k : Nat) (v : Int) (p : List Int) : Prop := k + p.length = s.need_.length ∧ Bnd s p ∧ feas s k v p = some (cellAt T k v)
/-- What the count tells. -/
structure Cnt (s : T23) (T : List (List Int)) (k : Nat) (v c : Int) : Prop where
  low : 0 ≤ c
  high : c ≤ 1000000000
  none : cellAt T k v = -1 → c = 0
  one : cellAt T k v ≠ -1 → 1 ≤ c
  two : ∀ p q, p ≠ q → Opt s T k v p → Opt s T k v q → 2 ≤ c
structure CntRow (s : T23) (T : List (List Int)) (k : Nat) (row : List Int) : Prop where
  len : row.length = s.store_.toNat + 1
  ok : ∀ v : Nat, (v : Int) ≤ s.store_ → Cnt s T k v (row.getD v 0)
/-- While the logs are tried. -/
structure Try (s : T23) (T : List (List Int)) (next : List Int) (k : Nat) (v : Int) (q : Nat) (c : Int) : Prop where
  low : 0 ≤ c
  high : c ≤ 1000000000
  one : ∀ y v', 0 ≤ y → y < (q : Int) → Tight s T k v y v' → 1 ≤ c
  deep : ∀ y v', 0 ≤ y → y < (q : Int) → Tight s T k v y v' → 2 ≤ next.getD v'.toNat 0 → 2 ≤ c
  two : ∀ y v' z u, 0 ≤ y → y < z → z < (q : Int) → Tight s T k v y v' → Tight s T k v z u → 2 ≤ c

theorem getD_set {l : List Int} {i j : Nat} {a : Int} (h : i < l.length) : (l.set i a).getD j 0 = if i = j then a else l.getD j 0 := by
  simp only [List.getD_eq_getElem?_getD, List.getElem?_set]
  split
  · subst_vars; simp [h]
  · rfl
theorem logs18 (hv : Valid s) (hT : TabOk s T 0) {k : Nat} (hk : k < s.need_.length) {i : Nat} (hi : (i : Int) ≤ s.store_) {next : List Int} (hN : CntRow s T (k + 1) next) {l0 : List Int} (hl : l0.length = s.store_.toNat + 1) (hz : l0.getD i 0 = 0) (hc : cellAt T k i ≠ -1) :
    ∃ c, loopO (g18_L3 s (k : Int) (i : Int) T next) (0, l0) = some (l0.set i c) ∧ Cnt s T k i c := by
  have m0 := hv.most0
  have m1 := hv.most1
  have s0 := hv.store0
  have hil : i < l0.length := by rw [hl]; omega
  obtain ⟨r, e, c, rfl, hc2⟩ := loopO_rule (body := g18_L3 s (k : Int) (i : Int) T next) (fun st => s.most_.toNat + 1 - st.1.toNat) (fun st => ∃ (q : Nat) (c : Int), st = ((q : Int), l0.set i c) ∧ (q : Int) ≤ s.most_ + 1 ∧ Try s T next k i q c)
    (fun r => ∃ c, r = l0.set i c ∧ Try s T next k i (s.most_.toNat + 1) c) (fun st ⟨q, c, e, hq, hJ⟩ => by
    subst e
    rw [g18_L3, aI64 (by omega) (by omega)]
    by_cases hqm : (q : Int) < s.most_ + 1
    · left
      have hx : (q : Int) ≤ s.most_ := by omega
      rw [if_pos (by simp [ltI]; omega), g37_eq hv hk (by omega) hi (by omega) hx, Option.bind_some]
      cases ha : aft s k i q with
      | none =>
        simp only [Bool.false_eq_true, if_false, Option.bind_some]
        rw [succI (by omega)]
        refine ⟨_, rfl, ⟨q + 1, c, rfl, by omega, hJ.low, hJ.high, fun y v' y0 y1 t => ?_, fun y v' y0 y1 t h2 => ?_, fun y v' z u y0 y1 z1 t t' => ?_⟩, by simp only; omega⟩
        · by_cases hy : y = (q : Int)
          · subst hy; have := t.1; rw [ha] at this; cases this
          · exact hJ.one y v' y0 (by omega) t
        · by_cases hy : y = (q : Int)
          · subst hy; have := t.1; rw [ha] at this; cases this
          · exact hJ.deep y v' y0 (by omega) t h2
        · by_cases hy : z = (q : Int)
          · subst hy; have := t'.1; rw [ha] at this; cases this
          · exact hJ.two y v' z u y0 y1 (by omega) t t'
      | some w =>
        have hr := aft_range hv ha
        simp only [if_true]
        rw [test_some hv hT hk (by omega) hi (by omega) hx ha]
        by_cases ht : cellAt T (k + 1) w ≠ -1 ∧ pr s k * (q : Int) + cellAt T (k + 1) w = cellAt T k i
        · have hw : w.toNat < next.length := by rw [hN.len]; omega
          have hwn : next[w.toNat] = next.getD w.toNat 0 := by simp [List.getD, hw]
          have hcw := hN.ok w.toNat (by omega)
          rw [show ((w.toNat : Nat) : Int) = w by omega] at hcw
          have hw1 := hcw.one ht.1
          have hge : idx (l0.set i c) (i : Int) = some c := by
            rw [idx_nat (by simpa using hil)]
            simp
          rw [if_pos (by simpa using ht), hge, Option.bind_some, idx_of hr.1 hw, Option.bind_some, hwn, succI (i := q) (by omega), aI64 (by have := hJ.low; omega) (by have := hJ.high; have := hcw.high; omega), Int.toNat_natCast, List.set_set]
          generalize hd : next.getD w.toNat 0 = d at hw1 hcw
          have hJl := hJ.low
          have hJh := hJ.high
          have hch := hcw.high
          have hmin : 1 ≤ minI (c + d) 1000000000 ∧ minI (c + d) 1000000000 ≤ 1000000000 ∧ (2 ≤ c + d → 2 ≤ minI (c + d) 1000000000) := by
            unfold minI
            split <;> omega
          refine ⟨_, rfl, ⟨q + 1, _, rfl, by omega, by omega, hmin.2.1, fun y v' y0 y1 t => hmin.1, fun y v' y0 y1 t h2 => hmin.2.2 ?_, fun y v' z u y0 y1 z1 t t' => hmin.2.2 ?_⟩, by simp only; omega⟩
          · by_cases hy : y = (q : Int)
            · subst hy
              have := t.1
              rw [ha] at this
              cases this
              rw [hd] at h2
              omega
            · have := hJ.deep y v' y0 (by omega) t h2
              omega
          · by_cases hy : z = (q : Int)
            · have := hJ.one y v' y0 (by omega) t
              omega
            · have := hJ.two y v' z u y0 y1 (by omega) t t'
              omega
        · rw [if_neg (by simpa using ht), succI (by omega)]
          refine ⟨_, rfl, ⟨q + 1, c, rfl, by omega, hJ.low, hJ.high, fun y v' y0 y1 t => ?_, fun y v' y0 y1 t h2 => ?_, fun y v' z u y0 y1 z1 t t' => ?_⟩, by simp only; omega⟩
          · by_cases hy : y = (q : Int)
            · subst hy; have := t.1; rw [ha] at this; cases this; exact absurd ⟨t.2.1, t.2.2⟩ ht
            · exact hJ.one y v' y0 (by omega) t
          · by_cases hy : y = (q : Int)
            · subst hy; have := t.1; rw [ha] at this; cases this; exact absurd ⟨t.2.1, t.2.2⟩ ht
            · exact hJ.deep y v' y0 (by omega) t h2
          · by_cases hy : z = (q : Int)
            · subst hy; have := t'.1; rw [ha] at this; cases this; exact absurd ⟨t'.2.1, t'.2.2⟩ ht
            · exact hJ.two y v' z u y0 y1 (by omega) t t'
    · right
      rw [if_neg (by simp [ltI]; omega)]
      have : q = s.most_.toNat + 1 := by omega
      subst this
      exact ⟨_, rfl, c, rfl, hJ⟩) (s := (0, l0)) ⟨0, 0, by
        have h0 : l0[i] = 0 := by simpa [List.getD, hil] using hz
        have : l0.set i 0 = l0 := by
          conv => lhs; rw [← h0]
          exact List.set_getElem_self hil
        rw [this]
        rfl, by omega, by omega, by omega, fun y v' y0 y1 => by simp at y1; omega, fun y v' y0 y1 => by simp at y1; omega, fun y v' z u y0 y1 z1 => by simp at z1; omega⟩
  refine ⟨c, e, hc2.low, hc2.high, fun h => absurd h hc, fun _ => ?_, fun p q hpq hp hq => ?_⟩
  · obtain ⟨x, v', x0, x1, t⟩ := tight_ex hT hk (by omega) hi hc
    exact hc2.one x v' x0 (by push_cast; omega) t
  · obtain ⟨p1, p2, p3⟩ := hp
    obtain ⟨q1, q2, q3⟩ := hq
    cases p with
    | nil => simp at p1; omega
    | cons a p =>
      cases q with
      | nil => simp at q1; omega
      | cons b q =>
        obtain ⟨v1, t1, f1⟩ := opt_cons hv hT p1 (by omega) hi p2 p3
        obtain ⟨v2, t2, f2⟩ := opt_cons hv hT q1 (by omega) hi q2 q3
        have ha := p2 a (by simp)
        have hb := q2 b (by simp)
        rcases Int.lt_trichotomy a b with h | h | h
        · exact hc2.two a v1 b v2 ha.1 h (by push_cast; omega) t1 t2
        · subst h
          have hvv : v1 = v2 := by
            have h1 := t1.1
            rw [t2.1] at h1
            exact (Option.some.inj h1).symm
          subst hvv
          have hr := aft_range hv t1.1
          have hd := (hN.ok v1.toNat (by omega)).two p q (fun h => hpq (by rw [h])) ⟨by simp at p1; omega, fun y hy => p2 y (by simp [hy]), by rw [show ((v1.toNat : Nat) : Int) = v1 by omega]; exact f1⟩ ⟨by simp at q1; omega, fun y hy => q2 y (by simp [hy]), by rw [show ((v1.toNat : Nat) : Int) = v1 by omega]; exact f2⟩
          exact hc2.deep a v1 ha.1 (by push_cast; omega) t1 hd
        · exact hc2.two b v2 a v1 hb.1 h (by push_cast; omega) t2 t1
theorem row18 (hv : Valid s) (hT : TabOk s T 0) {k : Nat} (hk : k < s.need_.length) {next : List Int} (hN : CntRow s T (k + 1) next) :
    ∃ row, loopO (g18_L2 s T (k : Int) next) (0, List.replicate (aI .i64 s.store_ 1).toNat 0) = some row ∧ CntRow s T k row := by
  have s0 := hv.store0
  have s1 := hv.store1
  have hs1 : (aI .i64 s.store_ 1).toNat = s.store_.toNat + 1 := by rw [aI64 (by omega) (by omega)]; omega
  obtain ⟨rw0, a1, a2, a3⟩ := row_idx hT.rows (k := k) (by omega)
  obtain ⟨r, e, hr⟩ := loopO_rule (body := g18_L2 s T (k : Int) next) (fun st => s.store_.toNat + 1 - st.1.toNat) (fun st => ∃ (q : Nat) (l : List Int), st = ((q : Int), l) ∧ q ≤ s.store_.toNat + 1 ∧ l.length = s.store_.toNat + 1 ∧ (∀ v : Nat, v < q → Cnt s T k v (l.getD v 0)) ∧ ∀ v : Nat, q ≤ v → l.getD v 0 = 0)
    (fun r => CntRow s T k r) (fun st ⟨q, l, e, hq, hl, h1, h2⟩ => by
    subst e
    rw [g18_L2, List.length_replicate, hs1]
    by_cases hqs : q < s.store_.toNat + 1
    · left
      rw [if_pos (by simp [ltI]; omega), a1, Option.bind_some, a3 q (by omega), Option.bind_some]
      have hcq : ∃ c, (if eqI (cellAt T k q) (-1) = true then g18_j5 (q : Int) l else (loopO (g18_L3 s (k : Int) (q : Int) T next) (0, l)).bind fun w => g18_j5 (q : Int) w) = some (.inl (((q + 1 : Nat) : Int), l.set q c)) ∧ Cnt s T k q c := by
        by_cases hc : cellAt T k q = -1
        · refine ⟨0, ?_, by omega, by omega, fun _ => rfl, fun h => absurd hc h, fun p _ _ hp _ => ?_⟩
          · rw [if_pos (by simp [eqI, hc])]
            unfold g18_j5
            rw [succI (by omega)]
            have hql : q < l.length := by omega
            have h0 : l[q] = 0 := by simpa [List.getD, hql] using h2 q (Nat.le_refl _)
            have : l.set q 0 = l := by
              conv => lhs; rw [← h0]
              exact List.set_getElem_self hql
            rw [this]
          · have := (feas_low hv hT p k q _ hp.1 (by omega) (by omega) hp.2.1 hp.2.2).1
            exact absurd hc this
        · obtain ⟨c, e1, e2⟩ := logs18 hv hT hk (i := q) (by omega) hN hl (h2 q (Nat.le_refl _)) hc
          refine ⟨c, ?_, e2⟩
          rw [if_neg (by simp [eqI, hc]), e1, Option.bind_some]
          unfold g18_j5
          rw [succI (by omega)]
      obtain ⟨c, e1, e2⟩ := hcq
      refine ⟨_, e1, ⟨q + 1, _, rfl, by omega, by simp [hl], fun v hv' => ?_, fun v hv' => ?_⟩, by simp only; omega⟩
      · rw [getD_set (by omega)]
        by_cases hvq : q = v
        · subst hvq; rw [if_pos rfl]; exact e2
        · rw [if_neg hvq]; exact h1 v (by omega)
      · rw [getD_set (by omega), if_neg (by omega)]
        exact h2 v (by omega)
    · right
      rw [if_neg (by simp [ltI]; omega)]
      exact ⟨_, rfl, hl, fun v hv' => h1 v (by omega)⟩) (s := (0, List.replicate (aI .i64 s.store_ 1).toNat 0)) ⟨0, _, rfl, by omega, by rw [List.length_replicate, hs1], fun v hv' => by omega, fun v _ => by
        rw [List.getD_eq_getElem?_getD, List.getElem?_replicate]
        split <;> rfl⟩
  exact ⟨r, e, hr⟩
theorem ones18 (hv : Valid s) (hT : TabOk s T 0) : ∃ row, loopO (g18_L4 s) (0, List.replicate (aI .i64 s.store_ 1).toNat 0) = some row ∧ CntRow s T s.need_.length row := by
  have s0 := hv.store0
  have s1 := hv.store1
  have hs1 : (aI .i64 s.store_ 1).toNat = s.store_.toNat + 1 := by rw [aI64 (by omega) (by omega)]; omega
  obtain ⟨r, e, hl, hr⟩ := loopO_rule (body := g18_L4 s) (fun st => s.store_.toNat + 1 - st.1.toNat) (fun st => ∃ (q : Nat) (l : List Int), st = ((q : Int), l) ∧ q ≤ s.store_.toNat + 1 ∧ l.length = s.store_.toNat + 1 ∧ ∀ v : Nat, v < q → l.getD v 0 = 1)
    (fun r => r.length = s.store_.toNat + 1 ∧ ∀ v : Nat, v < s.store_.toNat + 1 → r.getD v 0 = 1) (fun st ⟨q, l, e, hq, hl, h1⟩ => by
    subst e
    rw [g18_L4, List.length_replicate, hs1]
    by_cases hqs : q < s.store_.toNat + 1
    · left
      rw [if_pos (by simp [ltI]; omega), idx_nat (by omega), Option.bind_some, succI (by omega), Int.toNat_natCast]
      refine ⟨_, rfl, ⟨q + 1, _, rfl, by omega, by simp [hl], fun v hv' => ?_⟩, by simp only; omega⟩
      rw [getD_set (by omega)]
      by_cases hvq : q = v
      · rw [if_pos hvq]
      · rw [if_neg hvq]; exact h1 v (by omega)
    · right
      rw [if_neg (by simp [ltI]; omega)]
      exact ⟨_, rfl, hl, fun v hv' => h1 v (by omega)⟩) (s := (0, List.replicate (aI .i64 s.store_ 1).toNat 0)) ⟨0, _, rfl, by omega, by rw [List.length_replicate, hs1], fun v hv' => by omega⟩
  refine ⟨r, e, hl, fun v hv' => ?_⟩
  rw [hr v (by omega)]
  refine ⟨by omega, by omega, fun h => ?_, fun _ => by omega, fun p q hpq hp hq => ?_⟩
  · rw [hT.last v (by omega) hv'] at h
    cases h
  · exfalso
    have h1 := hp.1
    have h2 := hq.1
    have e1 : p = [] := List.length_eq_zero_iff.1 (by omega)
    have e2 : q = [] := List.length_eq_zero_iff.1 (by omega)
    exact hpq (by rw [e1, e2])
theorem count18 (hv : Valid s) (hT : TabOk s T 0) (h31 : g31 s = some T) : ∃ c, g18 s = some (c, 0) ∧ Cnt s T 0 s.first_ c := by
  have s0 := hv.store0
  have s1 := hv.store1
  have n2 := hv.n2
  have f0 := hv.first0
  have f1 := hv.first1
  have hmk : mk 8 (aI .i64 s.store_ 1) = some () := by rw [aI64 (by omega) (by omega)]; exact mk_of (by omega) (by omega) (by omega)
  obtain ⟨r0, e0, h0⟩ := ones18 hv hT
  obtain ⟨r, e, hr⟩ := loopO_rule (body := g18_L1 s T) (fun st => (st.1 + 1).toNat) (fun st => ∃ (q : Nat) (l : List Int), st = ((q : Int) - 1, l) ∧ q ≤ s.need_.length ∧ CntRow s T q l)
    (fun r => CntRow s T 0 r) (fun st ⟨q, l, e, hq, hl⟩ => by
    subst e
    rw [g18_L1]
    cases q with
    | zero =>
      right
      rw [if_neg (by simp [leI])]
      exact ⟨_, rfl, hl⟩
    | succ q =>
      left
      obtain ⟨row, e1, e2⟩ := row18 hv hT (k := q) (by omega) hl
      have hqq : (((q + 1 : Nat) : Int) - 1) = (q : Int) := by omega
      rw [hqq, if_pos (by simp [leI]), hmk, Option.bind_some, e1, Option.bind_some]
      unfold g18_j4 g18_j3
      rw [sI64 (by omega) (by omega)]
      exact ⟨_, rfl, ⟨q, row, rfl, by omega, e2⟩, by simp only; omega⟩) (s := ((s.need_.length : Int) - 1, r0)) ⟨s.need_.length, r0, rfl, Nat.le_refl _, h0⟩
  have hlt : s.first_.toNat < r.length := by rw [hr.len]; omega
  refine ⟨r.getD s.first_.toNat 0, ?_, ?_⟩
  · unfold g18
    rw [val30 hv, Option.bind_some, if_neg (by simp), h31, Option.bind_some, hmk, Option.bind_some, e0, Option.bind_some]
    unfold g18_j1
    rw [sI64 (by omega) (by omega), e, Option.bind_some]
    unfold g18_j2
    rw [idx_of f0 hlt, Option.bind_some]
    simp [List.getD, hlt]
  · have := hr.ok s.first_.toNat (by omega)
    rwa [show ((s.first_.toNat : Nat) : Int) = s.first_ by omega] at this
end
end Go.Proofs.Ytboeddbhfnlpaaa
namespace Go.Proofs.Ytboeddbhfnlpaaa
open Go.VL
set_option linter.unusedSimpArgs false
set_option linter.unusedVariables false
set_option maxHeartbeats 4000000
section
variable {s : T23} {i : Nat} {store logs : Int}
theorem g46_eq (hv : Valid s) (hi : i < s.need_.length) (h1 : 0 ≤ store) (h2 : store ≤ s.store_) : g46 s (i : Int) store = some (match few s i store with | none => (-1, -1) | some p => p) := by
  have m0 := hv.most0
  have m1 := hv.most1
  have hL := loop_scan (body := g46_L1 s i store) (n := s.most_.toNat + 1) (fun (n : Nat) => (aft s i store (n : Int)).map fun v => .inr ((n : Int), v)) (.inl ()) (fun n hn => by
    rw [g46_L1]
    have hle : (n : Int) ≤ s.most_ := by omega
    rw [if_pos (by simp [leI]; omega), g45_eq hv hi h1 h2 (by omega) hle, Option.bind_some, succI (by omega)]
    cases ha : aft s i store n with
    | none => simp [leI]
    | some v => simp [leI, (aft_range hv ha).1]) (by
    rw [g46_L1, if_neg (by simp [leI]; omega)])
  unfold g46 g46_j1 few
  rw [hL]
  have : (List.range (s.most_.toNat + 1)).findSome? (fun (n : Nat) => (aft s i store (n : Int)).map fun v => (.inr ((n : Int), v) : Unit ⊕ (Int × Int))) = ((List.range (s.most_.toNat + 1)).findSome? fun (n : Nat) => (aft s i store (n : Int)).map fun v => ((n : Int), v)).map .inr := by
    induction (List.range (s.most_.toNat + 1)) with
    | nil => rfl
    | cons x l ih => rw [List.findSome?_cons, List.findSome?_cons, ih]; cases aft s i store x <;> rfl
  rw [this]
  cases (List.range (s.most_.toNat + 1)).findSome? fun (n : Nat) => (aft s i store (n : Int)).map fun v => ((n : Int), v) <;> rfl

end
section
variable {s : T23} {T : List (List Int)}
/-! ### Plans that are drawn and repaired -/
theorem plan24 (hv : Valid s) {more : List Int} (hb : ∀ x ∈ more, 0 ≤ x ∧ x ≤ 255) (hl : more.length ≤ 1048576) : ∃ p, g24 more s = some p ∧ p.length = s.need_.length ∧ Bnd s p := by
  have n2 := hv.n2
  have m0 := hv.most0
  have m1 := hv.most1
  obtain ⟨r, e, h1, h2⟩ := loopO_rule (body := g24_L1 s) (fun z => s.need_.length - z.1.toNat)
    (fun z => ∃ q : Nat, z.1 = q ∧ q ≤ s.need_.length ∧ z.2.2.2.2.length = q ∧ Bnd s z.2.2.2.2 ∧ SrcOk ⟨z.2.1, z.2.2.1, z.2.2.2.1⟩ (q : Int))
    (fun r => r.2.2.2.length = s.need_.length ∧ Bnd s r.2.2.2) (fun z ⟨q, a1, a2, a3, a4, a5⟩ => by
      obtain ⟨k, c, a, d, l⟩ := z
      simp only at a1 a2 a3 a4 a5
      subst a1
      rw [g24_L1]
      by_cases hk : q < s.need_.length
      · left
        obtain ⟨v, s', e, v0, v1, hs⟩ := pick_eq a5 (by omega) (k := s.most_ + 1) (by omega) (by omega)
        rw [if_pos (by simp [ltI]; omega), aI64 (a := s.most_) (by omega) (by omega), e, Option.bind_some, appK_of (by simp; omega) (by simp; omega), Option.bind_some, succI (by omega)]
        refine ⟨_, rfl, ⟨q + 1, rfl, by omega, by simp; omega, ?_, ?_⟩, by simp only; omega⟩
        · intro x hx
          rcases List.mem_append.1 hx with hx | hx
          · exact a4 x hx
          · simp at hx; subst hx; exact ⟨v0, by omega⟩
        · have := hs
          push_cast
          exact this
      · right
        rw [if_neg (by simp [ltI]; omega)]
        exact ⟨_, rfl, by simp only; omega, a4⟩) (s := (0, more, 0, 0, [])) ⟨0, rfl, by omega, rfl, (by intro x hx; simp at hx), ⟨hb, hl, by simp, by simp⟩⟩
  unfold g24
  rw [e, Option.bind_some]
  exact ⟨_, rfl, h1, h2⟩
theorem repair25 (hv : Valid s) {plan : List Int} (hl : plan.length = s.need_.length) (hb : Bnd s plan) : ∃ r, g25 s plan = some r ∧ (r.2.2 = 0 → r.1.length = s.need_.length ∧ Bnd s r.1 ∧ ∃ c, feas s 0 s.first_ r.1 = some c) := by
  have n2 := hv.n2
  have m0 := hv.most0
  obtain ⟨r, e, hr⟩ := loopO_rule (body := g25_L1 plan s) (fun st => plan.length - st.2.2.1.toNat)
    (fun st => ∃ (q : Nat) (v o : Int) (l : List Int), st = (v, o, (q : Int), l) ∧ q ≤ plan.length ∧ (0 ≤ v ∧ v ≤ s.store_) ∧ (0 ≤ o ∧ o ≤ q) ∧ l.length = q ∧ Bnd s l ∧ ∀ p c, feas s q v p = some c → ∃ c', feas s 0 s.first_ (l ++ p) = some c')
    (fun r => match r with
      | .inl y => y.2.length = s.need_.length ∧ Bnd s y.2 ∧ ∃ c, feas s 0 s.first_ y.2 = some c
      | .inr z => z = ([], 0, 6)) (fun st ⟨q, v, o, l, e, hq, hv', ho, hl', hbl, hf⟩ => by
    subst e
    rw [g25_L1]
    by_cases hqn : q < plan.length
    · have hx := hb _ (List.getElem_mem hqn)
      have hqs : q < s.need_.length := by omega
      have go : ∀ (n w o' : Int), aft s q v n = some w → 0 ≤ n → n ≤ s.most_ → 0 ≤ o' → o' ≤ (q : Int) + 1 → ∃ st', g25_j2 l (q : Int) o' n w = some (.inl st') ∧ (∃ (q : Nat) (v o : Int) (l : List Int), st' = (v, o, (q : Int), l) ∧ q ≤ plan.length ∧ (0 ≤ v ∧ v ≤ s.store_) ∧ (0 ≤ o ∧ o ≤ q) ∧ l.length = q ∧ Bnd s l ∧ ∀ p c, feas s q v p = some c → ∃ c', feas s 0 s.first_ (l ++ p) = some c') ∧ plan.length - st'.2.2.1.toNat < plan.length - ((q : Int)).toNat := fun n w o' ha n0 n1 o0 o1 => by
        unfold g25_j2
        rw [if_neg (by simp [ltI]; omega), appK_of (by simp; omega) (by simp; omega), Option.bind_some, succI (by omega)]
        refine ⟨_, rfl, ⟨q + 1, w, o', l ++ [n], rfl, by omega, aft_range hv ha, ⟨o0, by push_cast; exact o1⟩, by simp [hl'], fun y hy => ?_, fun p c hp => ?_⟩, by simp only; omega⟩
        · rcases List.mem_append.1 hy with hy | hy
          · exact hbl y hy
          · simp at hy; subst hy; exact ⟨n0, n1⟩
        · rw [List.append_assoc, List.singleton_append]
          refine hf (n :: p) (pr s q * n + c) ?_
          conv => lhs; unfold feas
          rw [ha]
          simp only
          rw [hp]
          rfl
      rw [if_pos (by simp [ltI]; omega), idx_nat hqn, Option.bind_some, g45_eq hv hqs hv'.1 hv'.2 hx.1 hx.2, Option.bind_some]
      cases ha : aft s q v plan[q] with
      | some w =>
        have hr := aft_range hv ha
        left
        simp only
        rw [if_neg (by simp [ltI]; omega)]
        exact go plan[q] w o ha hx.1 hx.2 ho.1 (by omega)
      | none =>
        simp only
        rw [if_pos (by simp [ltI]), g46_eq hv hqs hv'.1 hv'.2, Option.bind_some, aI64 (by omega) (by omega)]
        cases hfw : few s q v with
        | some z =>
          obtain ⟨z0, z1, z2, z3, z4⟩ := few_some hv hfw
          left
          exact go z.1 z.2 (o + 1) z4 z0 z1 (by omega) (by omega)
        | none =>
          right
          unfold g25_j2
          simp only
          rw [if_pos (by simp [ltI])]
          exact ⟨_, rfl, rfl⟩
    · right
      rw [if_neg (by simp [ltI]; omega)]
      obtain ⟨c, hc⟩ := hf [] 0 rfl
      rw [List.append_nil] at hc
      exact ⟨_, rfl, by simp only; omega, hbl, c, hc⟩) (s := (s.first_, 0, 0, [])) ⟨0, s.first_, 0, [], rfl, by omega, ⟨hv.first0, hv.first1⟩, by omega, rfl, (by intro x hx; simp at hx), fun p c hp => ⟨c, by simpa using hp⟩⟩
  obtain ⟨b, e44, h44⟩ := g44_eq (xs := plan) (m := s.most_) (by omega)
  have hbt : b = true := h44.2 hb
  subst hbt
  unfold g25
  rw [val27 hv, Option.bind_some, if_neg (by simp), if_neg (by simp [eqI, hl]), e44]
  simp only [Option.bind_some, Bool.not_true, Bool.false_eq_true, if_false]
  rw [e, Option.bind_some]
  match r, hr with
  | .inl y, hr =>
    obtain ⟨h1, h2, h3⟩ := hr
    exact ⟨_, rfl, fun _ => ⟨h1, h2, h3⟩⟩
  | .inr z, hr =>
    simp only at hr
    subst hr
    exact ⟨_, rfl, fun h => by cases h⟩

/-! ### Lists that are the same -/
theorem same39 {a b : List Int} (ha : a.length ≤ 1000) : ∃ r, g39 a b = some r ∧ (a = b → r = true) := by
  unfold g39
  by_cases hl : a.length = b.length
  · rw [if_neg (by simp [eqI, hl])]
    have := loop_scan (body := g39_L1 a b) (n := a.length) (fun i => if a.getD i 0 = b.getD i 0 then none else some (.inr false)) (.inl ()) (fun i hi => by
      have hib : i < b.length := by omega
      rw [g39_L1, if_pos (by simp [ltI]; omega), idx_nat hi, Option.bind_some, idx_nat hib, Option.bind_some, succI (by omega)]
      simp only [List.getD_eq_getElem?_getD, List.getElem?_eq_getElem hi, List.getElem?_eq_getElem hib, Option.getD_some]
      by_cases h : a[i] = b[i]
      · rw [if_neg (by simp [eqI, h]), if_pos h]
      · rw [if_pos (by simp [eqI, h]), if_neg h]) (by rw [g39_L1, if_neg (by simp [ltI])])
    rw [this, Option.bind_some]
    cases hf : (List.range a.length).findSome? (fun i => if a.getD i 0 = b.getD i 0 then none else some (.inr false : Unit ⊕ Bool)) with
    | none => exact ⟨true, rfl, fun _ => rfl⟩
    | some r =>
      obtain ⟨i, _, h2, _⟩ := range_some hf
      split at h2
      · cases h2
      · rename_i hne
        cases h2
        exact ⟨false, rfl, fun h => by subst h; exact absurd rfl hne⟩
  · rw [if_pos (by simp [eqI]; omega)]
    exact ⟨false, rfl, fun h => by rw [h] at hl; exact absurd rfl hl⟩
theorem same20 {a b : List Int} (ha : a.length ≤ 1000) : ∃ r, g20 a b = some r ∧ (a = b → r = true) := by
  obtain ⟨r, e, h⟩ := same39 (b := b) ha
  unfold g20
  rw [e]
  exact ⟨r, rfl, h⟩
theorem same19 {T : List (List Int)} (h1 : T.length ≤ 1000) (h2 : ∀ r ∈ T, r.length ≤ 1000) : g19 T T = some true := by
  have := loop_run (body := g19_L1 T T) (fun i => (i : Int)) T.length (fun i hi => by
    obtain ⟨r, e, h⟩ := same39 (b := T[i]) (h2 _ (List.getElem_mem hi))
    have hr := h rfl
    subst hr
    rw [g19_L1, if_pos (by simp [ltI]; omega), idx_nat hi, Option.bind_some, Option.bind_some, e, Option.bind_some, if_neg (by simp), succI (by omega)]) (r := .inl ()) (by rw [g19_L1, if_neg (by simp [ltI])])
  have h0 : loopO (g19_L1 T T) 0 = some (.inl ()) := this
  unfold g19
  rw [if_neg (by simp [eqI]), h0]
  rfl
theorem copy4 {T : List (List Int)} {c : Int} (h1 : T.length ≤ 1000) (h2 : ∀ r ∈ T, r.length ≤ 1000) : loopO (g4_L1 (T, c)) (0, []) = some T := by
  have := loop_run (body := g4_L1 (T, c)) (fun i => ((i : Int), T.take i)) T.length (fun i hi => by
    have := h2 _ (List.getElem_mem hi)
    rw [g4_L1]
    simp only
    rw [if_pos (by simp [ltI]; omega), idx_nat hi, Option.bind_some, appK_of (by simp; omega) (by simp; omega), Option.bind_some, appK_of (by simp; omega) (by simp; omega), Option.bind_some, succI (by omega), List.take_succ_eq_append_getElem hi]) (r := T) (by
    rw [g4_L1]
    simp only
    rw [if_neg (by simp [ltI]), List.take_length])
  simpa using this

/-- What is behind the repaired plan. -/
theorem last4 (hv : Valid s) (hT : TabOk s T 0) (hc : cellAt T 0 s.first_ ≠ -1) {z : Int} {plan : List Int} {y : Int × Int} (hl : plan.length = s.need_.length) (hb : Bnd s plan) {c : Int} (hf : feas s 0 s.first_ plan = some c) : g4_j1 (T, z) s (plan, y) = some true := by
  have n2 := hv.n2
  have s0 := hv.store0
  have s1 := hv.store1
  have f0 := hv.first0
  have f1 := hv.first1
  have hR := hT.rows
  have hT0 : 0 < T.length := by rw [hR.1]; omega
  have hl0 := hR.2 0 hT0 (Nat.le_refl _)
  have hft : s.first_.toNat < T[0].length := by rw [hl0]; omega
  have hd : T.getD 0 [] = T[0] := by simp [List.getD, hT0]
  have hce := cellAt_eq (T := T) (k := 0) (v := s.first_) hT0 hft
  have hcb := cell_bnd hv hT (k := 0) (by omega) f0 f1
  unfold g4_j1
  rw [copy4 (by rw [hR.1]; omega) (fun r hr => by
    obtain ⟨k, hk, rfl⟩ := List.getElem_of_mem hr
    rw [hR.2 k hk (Nat.zero_le _)]
    omega), Option.bind_some]
  unfold g4_j2
  have i0 : idx T 0 = some T[0] := idx_nat hT0
  rw [i0, Option.bind_some, idx_of f0 hft, Option.bind_some, hce, aI64 (by omega) (by omega)]
  have hraise : T.set 0 (T[0].set s.first_.toNat (cellAt T 0 s.first_ + 1)) = raise T s.first_ := by unfold raise; rw [hd]
  rw [hraise]
  obtain ⟨e40, x, e41⟩ := raised41 hv hT hc
  obtain ⟨e42, _⟩ := cost42 hv hl hb hf
  have e21 : g21 s (raise T s.first_) = some (0, s.first_, x, 0) := by
    unfold g21
    rw [val30 hv, Option.bind_some, if_neg (by simp), e40, Option.bind_some, if_neg (by simp), e41, Option.bind_some, if_neg (by simp)]
  have e22 : g22 s plan (raise T s.first_) = some (false, 0) := by
    unfold g22
    rw [e42, Option.bind_some, if_neg (by simp [eqI]), e40, Option.bind_some, if_neg (by simp), e41, Option.bind_some, if_neg (by simp), Option.bind_some]
  rw [e21, Option.bind_some, e22, Option.bind_some]
  simp [eqI]

theorem law4 (code more : List Int) (hc : code.length ≤ maxLen ∧ (∀ y ∈ code, (Lit.int .u8 y).wf = true)) (hm : more.length ≤ maxLen ∧ (∀ y ∈ more, (Lit.int .u8 y).wf = true)) : g4 code more = some true := by
  have bytes : ∀ l : List Int, (∀ y ∈ l, (Lit.int .u8 y).wf = true) → ∀ y ∈ l, 0 ≤ y ∧ y ≤ 255 := fun l h y hy => by
    have h1 := h y hy
    simp only [Lit.wf, decide_eq_true_eq, Bool.and_eq_true] at h1
    have e1 : IntKind.u8.min = 0 := by decide
    have e2 : IntKind.u8.max = 255 := by decide
    rw [e1, e2] at h1
    exact h1
  unfold g4
  have h14 : g14 code more = some (ltI 3000 (code.length : Int) || ltI 3000 (more.length : Int)) := rfl
  rw [h14, Option.bind_some]
  cases hlong : (ltI 3000 (code.length : Int) || ltI 3000 (more.length : Int))
  rotate_left
  · rw [if_pos rfl]
  rw [if_neg (by simp)]
  simp [ltI] at hlong
  obtain ⟨s, e15, hv, _⟩ := season_eq (bytes _ hc.2) (by omega)
  have n2 := hv.n2
  have s0 := hv.store0
  have s1 := hv.store1
  have f0 := hv.first0
  have f1 := hv.first1
  obtain ⟨T, t1, t2, hT, e6, e8⟩ := values_of hv
  have hR := hT.rows
  have hTl : T.length ≤ 1000 := by rw [hR.1]; omega
  have hTr : ∀ r ∈ T, r.length ≤ 1000 := fun r hr => by
    obtain ⟨k, hk, rfl⟩ := List.getElem_of_mem hr
    rw [hR.2 k hk (Nat.zero_le _)]
    omega
  obtain ⟨cnt, e18, hcnt⟩ := count18 hv hT t2
  obtain ⟨row, a1, a2, _⟩ := tab_idx hR (k := 0) (by omega) f0 f1
  replace a1 : idx T 0 = some row := a1
  rw [e15, Option.bind_some, e8, Option.bind_some, e6, Option.bind_some, best16 hv hT t2, Option.bind_some, best17 hv hT t1, Option.bind_some, e18, Option.bind_some]
  simp only
  rw [if_neg (by simp [eqI]), same19 hTl hTr, Option.bind_some, Option.bind_some]
  by_cases hcell : cellAt T 0 s.first_ = -1
  · rw [if_pos hcell]
    have h0 := hcnt.none hcell
    subst h0
    obtain ⟨r, e20, h20⟩ := same20 (a := []) (b := []) (by simp)
    have := h20 rfl
    subst this
    simp [eqI, e20, first21 hv hT, a1, a2, hcell]
  · rw [if_neg hcell]
    obtain ⟨p1, p2, p3⟩ := best_plan hv hT hcell
    generalize hbest : (stepsB s T s.need_.length).2 = best at p1 p2 p3
    obtain ⟨r, e20, h20⟩ := same20 (a := best) (b := best) (by omega)
    have hr := h20 rfl
    subst hr
    have hc1 := hcnt.one hcell
    simp only [e20, first21 hv hT, cert22 hv hT p1 p2 p3, regret23 hv hT t2 p1 p2 p3, Option.bind_some]
    rw [if_neg (by simp [eqI])]
    simp only [Option.bind_some]
    rw [if_neg (by simp [eqI]), if_neg (by simp [eqI]), if_neg (by simp [eqI]), if_neg (by simp [eqI, ltI]; omega)]
    obtain ⟨p, e24, q1, q2⟩ := plan24 hv (bytes _ hm.2) (by omega)
    obtain ⟨w, e25, hw⟩ := repair25 hv q1 q2
    rw [e24, Option.bind_some, e25, Option.bind_some]
    have hlast : g4_j1 (T, 0) s (best, cellAt T 0 s.first_, 0) = some true := last4 hv hT hcell p1 p2 p3
    by_cases h0 : w.2.2 = 0
    · rw [if_pos (by simp [eqI, h0])]
      obtain ⟨w1, w2, c, w3⟩ := hw h0
      have hlow := (feas_low hv hT w.1 0 s.first_ c (by omega) f0 f1 w2 w3).2
      rw [regret23 hv hT t2 w1 w2 w3, Option.bind_some, cert22 hv hT w1 w2 w3, Option.bind_some]
      obtain ⟨r21, e21, h21⟩ := same20 (a := w.1) (b := best) (by omega)
      have heq : eqI c (cellAt T 0 s.first_) = eqI (c - cellAt T 0 s.first_) 0 := by
        unfold eqI
        rw [Bool.eq_iff_iff]
        simp
        omega
      simp only [heq]
      rw [if_neg (by simp [eqI, ltI]; omega)]
      by_cases hz : c - cellAt T 0 s.first_ = 0
      · rw [if_pos (by simp [eqI, hz]), e21]
        simp only [Option.bind_some]
        have hne : r21 = false → 2 ≤ cnt := fun hr => hcnt.two w.1 best (fun h => by have := h21 h; rw [hr] at this; cases this) ⟨by omega, w2, by rw [w3]; congr 1; omega⟩ ⟨by omega, p2, p3⟩
        rw [if_neg (by
          cases r21 with
          | true => simp
          | false => have := hne rfl; simp [ltI]; omega)]
        exact hlast
      · rw [if_neg (by simp [eqI, hz])]
        simp only [Option.bind_some, Bool.false_and, Bool.false_eq_true, if_false]
        exact hlast
    · rw [if_neg (by simp [eqI, h0])]
      exact hlast
end
end Go.Proofs.Ytboeddbhfnlpaaa
