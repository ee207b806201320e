/- Plain laws: what is copied, compared, marked and held; the law of ValuesOf, without a program in sight. -/
import Derived.Test.YtboeddbhfnlpaaaK3a
import Derived.Test.YtboeddbhfnlpaaaK3Pz
namespace Go.Proofs.Ytboeddbhfnlpaaa
open Go.VL
set_option linter.unusedSimpArgs false
set_option linter.unusedVariables false

theorem g29_eq {a : List Int} (h : a.length ≤ 1048576) : g29 a = some a := by
  have hL : loopO (g29_L1 a) (0, List.replicate (a.length : Int).toNat 0) = some a := by
    have := loop_run (body := g29_L1 a) (fun i => ((i : Int), fill i a 0)) a.length (fun i hi => by
      rw [g29_L1]
      simp only [ltI, show ((i : Int) < a.length) = True by simp; omega, decide_true, if_true, idx_nat hi, Option.bind_some, succI (i := i) (by omega)]
      rw [idx_nat (by simpa using hi)]
      simp only [Option.bind_some, Int.toNat_natCast]
      rw [fill_set hi (List.getElem?_eq_getElem hi)]) (r := a) (by
      rw [g29_L1]
      simp [ltI, fill_all])
    simpa [fill_zero] using this
  unfold g29 g29_j1
  rw [mk_of (by omega) (by simp; omega) (by simp; omega)]
  simp only [Option.bind_some]
  rw [hL]
  rfl

theorem g7_eq {s : T23} (h : Small s) : g7 s = some s := by
  unfold g7
  rw [g29_eq h.1, Option.bind_some, g29_eq h.2]
  rfl

theorem g26_eq {a : List Int} {n : Int} (h : a.length ≤ maxLen) (h1 : 0 ≤ n) (h2 : n ≤ 1048576) : g26 a n = some (if n < a.length then -1 else n - a.length) := by
  have hm : maxLen = 9223372036854775807 := by decide
  unfold g26
  rw [sI64 (by omega) (by omega)]
  simp only [ltI, decide_eq_true_eq]
  by_cases hc : n < a.length
  · rw [if_pos hc, if_pos (by omega)]
  · rw [if_neg hc, if_neg (by omega)]

theorem sz_season {s : T23} (h1 : s.need_.length ≤ maxLen) (h2 : s.price_.length ≤ maxLen) : ∃ r, g5 s 1048576 = some r ∧ (¬ r < 0 → Small s) := by
  unfold g5
  rw [g26_eq h1 (by omega) (by omega)]
  simp only [Option.bind_some, ltI, decide_eq_true_eq]
  by_cases hc : (1048576 : Int) < s.need_.length
  · rw [if_pos hc, if_pos (by omega)]
    exact ⟨_, rfl, fun h => by omega⟩
  · rw [if_neg hc, if_neg (by omega), g26_eq h2 (by omega) (by omega)]
    simp only [Option.bind_some]
    by_cases hd : (1048576 : Int) - s.need_.length < s.price_.length
    · rw [if_pos hd, if_pos (by omega)]
      exact ⟨_, rfl, fun h => by omega⟩
    · rw [if_neg hd, if_neg (by omega)]
      exact ⟨_, rfl, fun _ => ⟨by omega, by omega⟩⟩

theorem g32_eq {a : List Int} (h : a.length ≤ 1048576) : g32 a a = some true := by
  have hL := loop_scan (body := g32_L1 a a) (n := a.length) (fun _ => none) (.inl ()) (fun i hi => by
    rw [g32_L1]
    simp only [ltI, show ((i : Int) < a.length) = True by simp; omega, decide_true, if_true, idx_nat hi, Option.bind_some, succI (i := i) (by omega), eqI, BEq.rfl, Bool.not_true]
    simp) (by rw [g32_L1]; simp [ltI])
  rw [show (List.range a.length).findSome? (fun _ => (none : Option (Unit ⊕ Bool))) = none by simp] at hL
  unfold g32
  rw [hL]
  simp [eqI, g32_j1]

theorem g10_eq {s : T23} (h : Small s) : g10 s s = some true := by
  unfold g10
  rw [g32_eq h.1, g32_eq h.2]
  simp [eqI]

def SmallT (T : List (List Int)) : Prop := T.length ≤ 1048576 ∧ ∀ r ∈ T, r.length ≤ 1048576

theorem g9_eq {T : List (List Int)} (h : SmallT T) : g9 T T = some true := by
  obtain ⟨h1, h2⟩ := h
  have hL := loop_scan (body := g9_L1 T T) (n := T.length) (fun _ => none) (.inl ()) (fun i hi => by
    rw [g9_L1]
    simp only [ltI, show ((i : Int) < T.length) = True by simp; omega, decide_true, if_true, idx_nat hi, Option.bind_some, succI (i := i) (by omega), g32_eq (h2 _ (List.getElem_mem hi)), Bool.not_true]
    simp) (by rw [g9_L1]; simp [ltI])
  rw [show (List.range T.length).findSome? (fun _ => (none : Option (Unit ⊕ Bool))) = none by simp] at hL
  unfold g9
  rw [hL]
  simp [eqI, g9_j1]

/-- What a table's rows are marked from: the first row from 1 on, each further one from where the one before it ends. -/
def pos (T : List (List Int)) : Nat → Int
  | 0 => 1
  | i + 1 => pos T i + (T.getD i []).length
/-- The first i rows are marked. -/
def mtab (T : List (List Int)) (i : Nat) : List (List Int) := T.mapIdx fun j r => if j < i then marks (pos T j) r.length else r

theorem pos_bnd {T : List (List Int)} (h : SmallT T) : ∀ i, i ≤ T.length → 1 ≤ pos T i ∧ pos T i ≤ 1 + 1048576 * (i : Int)
  | 0, _ => by simp [pos]
  | i + 1, hi => by
    have ih := pos_bnd h i (by omega)
    have := h.2 _ (List.getElem_mem (show i < T.length by omega))
    simp only [pos, List.getD, List.getElem?_eq_getElem (show i < T.length by omega), Option.getD_some]
    omega
theorem pos_succ {T : List (List Int)} {i : Nat} (h : i < T.length) : pos T (i + 1) = pos T i + (T[i].length : Int) := by
  simp only [pos, List.getD, List.getElem?_eq_getElem h, Option.getD_some]
@[simp] theorem mtab_length {T : List (List Int)} {i : Nat} : (mtab T i).length = T.length := by simp [mtab]
theorem mtab_get {T : List (List Int)} {i j : Nat} (h : j < T.length) : (mtab T i)[j]'(by simpa using h) = if j < i then marks (pos T j) T[j].length else T[j] := by
  simp [mtab]
theorem mtab_set {T : List (List Int)} {i : Nat} (h : i < T.length) : (mtab T i).set i (marks (pos T i) T[i].length) = mtab T (i + 1) := by
  apply List.ext_getElem (by simp)
  intro j h1 h2
  have hj : j < T.length := by simpa using h2
  rw [List.getElem_set, mtab_get (i := i + 1) hj]
  by_cases hij : i = j
  · subst hij
    rw [if_pos rfl, if_pos (by omega)]
  · rw [if_neg hij, mtab_get (i := i) hj]
    by_cases hl : j < i
    · rw [if_pos hl, if_pos (by omega)]
    · rw [if_neg hl, if_neg (by omega)]
theorem mtab_zero {T : List (List Int)} : mtab T 0 = T := by
  apply List.ext_getElem (by simp)
  intro j h1 h2
  rw [mtab_get h2, if_neg (by omega)]

theorem mark_table {T : List (List Int)} (h : SmallT T) : loopO g3_L1 (1, 0, T) = some (pos T T.length, mtab T T.length) := by
  have hb := h.1
  have := loop_run (body := g3_L1) (fun i => (pos T i, (i : Int), mtab T i)) T.length (fun i hi => by
    have b := pos_bnd h i (by omega)
    have hm : loopO g3_L2 (pos T i, 0, T[i]) = some (pos T i + (T[i].length : Int), marks (pos T i) T[i].length) := mark_eq (by omega) (by omega) (h.2 _ (List.getElem_mem hi))
    rw [g3_L1, mtab_length, if_pos (by simp [ltI]; omega), idx_nat (by simpa using hi), Option.bind_some, mtab_get hi, if_neg (by omega), hm, Option.bind_some]
    unfold g3_j4
    simp only
    rw [succI (by omega), Int.toNat_natCast, mtab_set hi, ← pos_succ hi]) (r := (pos T T.length, mtab T T.length)) (by
    rw [g3_L1, mtab_length, if_neg (by simp [ltI])])
  simpa [mtab_zero, pos] using this

theorem held34 {n : Nat} {k : Int} (hk : 0 ≤ k) (hk2 : k ≤ 4611686018427387904) (hl : n ≤ 1048576) : g34 (marks k n) k = some (k + n) := by
  have := loop_run (body := g34_L1 (marks k n)) (fun i => (k + i, (i : Int))) n (fun i hi => by
    rw [g34_L1, marks_length, if_pos (by simp [ltI]; omega), idx_nat (by simpa using hi), Option.bind_some, succI (by omega), aI64 (by omega) (by omega)]
    have : (marks k n)[i]'(by simpa using hi) = k + i := by
      have := marks_get (k := k) hi
      rw [List.getElem?_eq_getElem (by simpa using hi)] at this
      exact Option.some.inj this
    rw [this]
    simp [eqI]
    omega) (r := .inl (k + n)) (by
    rw [g34_L1, marks_length, if_neg (by simp [ltI])])
  unfold g34 g34_j1
  have h0 : loopO (g34_L1 (marks k n)) (k, 0) = some (.inl (k + n)) := by simpa using this
  rw [h0]
  rfl

theorem held_table {T : List (List Int)} (h : SmallT T) : g13 (mtab T T.length) 1 = some (pos T T.length) := by
  have hb := h.1
  have := loop_run (body := g13_L1 (mtab T T.length)) (fun i => (pos T i, (i : Int))) T.length (fun i hi => by
    have b := pos_bnd h i (by omega)
    have b2 := pos_bnd h (i + 1) (by omega)
    have hl := h.2 _ (List.getElem_mem hi)
    rw [g13_L1, mtab_length, if_pos (by simp [ltI]; omega), idx_nat (by simpa using hi), Option.bind_some, mtab_get hi, if_pos hi, held34 (by omega) (by omega) hl, Option.bind_some, ← pos_succ hi, if_neg (by simp [ltI]; omega), succI (by omega)]) (r := .inl (pos T T.length)) (by
    rw [g13_L1, mtab_length, if_neg (by simp [ltI])])
  unfold g13 g13_j1
  have h0 : loopO (g13_L1 (mtab T T.length)) (1, 0) = some (.inl (pos T T.length)) := by simpa [pos] using this
  rw [h0]
  rfl

theorem values_same {s : T23} (h : Small s) : ∃ T c, g6 s = some (T, c) ∧ g8 s = some (T, c) ∧ SmallT T := by
  by_cases hv : Valid s
  · obtain ⟨T, _, _, hT, e1, e2⟩ := values_of hv
    refine ⟨T, 0, e1, e2, ?_, fun r hr => ?_⟩
    · have := hT.rows.1; have := hv.n2; omega
    · obtain ⟨j, hj, rfl⟩ := List.mem_iff_getElem.1 hr
      have := hT.rows.2 j hj (by omega)
      have := hv.store1
      omega
  · obtain ⟨b1, e1, i1⟩ := g27_eq h
    obtain ⟨b2, e2, i2⟩ := g30_eq h
    have : b1 = false := by rw [Bool.eq_false_iff]; exact fun hb => hv (i1.1 hb)
    have : b2 = false := by rw [Bool.eq_false_iff]; exact fun hb => hv (i2.1 hb)
    subst b1 b2
    refine ⟨[], 1, ?_, ?_, by simp, by simp⟩
    · unfold g6
      rw [e1]
      rfl
    · unfold g8
      rw [e2]
      rfl

theorem law3 (s : T23) (h : s.need_.length ≤ maxLen ∧ s.price_.length ≤ maxLen) : g3 s = some true := by
  obtain ⟨r, e1, hsm⟩ := sz_season h.1 h.2
  unfold g3
  rw [e1, Option.bind_some]
  by_cases hr : r < 0
  · rw [if_pos (by simp [ltI, hr])]
  rw [if_neg (by simp [ltI]; omega)]
  have hS := hsm hr
  have n1 := hS.1
  have n2 := hS.2
  have he : ∀ x : Int, eqI x x = true := fun x => by simp [eqI]
  obtain ⟨T, c, t1, t2, hT⟩ := values_same hS
  have m1 : loopO g3_L4 (1, 0, s.need_) = some (1 + (s.need_.length : Int), marks 1 s.need_.length) := mark_eq (by decide) (by decide) n1
  have m2 : loopO g3_L3 (1 + (s.need_.length : Int), 0, s.price_) = some (1 + (s.need_.length : Int) + s.price_.length, marks (1 + (s.need_.length : Int)) s.price_.length) := mark_eq (by omega) (by omega) n2
  have hp := pos_bnd hT T.length (by omega)
  have hb := hT.1
  simp only [g7_eq hS, t1, t2, g9_eq hT, g10_eq hS, Option.bind_some, he, Bool.not_true, Bool.or_self, Bool.false_eq_true, if_false, m1]
  unfold g3_j1
  simp only [m2, Option.bind_some]
  unfold g3_j2
  have hk : ltI (1 + (s.need_.length : Int) + s.price_.length) 0 = false := by simp [ltI]; omega
  have hq : ltI (pos T T.length) 0 = false := by simp [ltI]; omega
  simp only [hk, g9_eq hT, Option.bind_some, Bool.not_true, Bool.false_eq_true, if_false, he, Bool.or_self, mark_table hT]
  unfold g3_j3
  simp only [held_table hT, hq, Option.bind_some, Bool.false_eq_true, if_false, he, Bool.not_true, g7_eq hS, t2, g9_eq hT, Bool.or_self]
end Go.Proofs.Ytboeddbhfnlpaaa
