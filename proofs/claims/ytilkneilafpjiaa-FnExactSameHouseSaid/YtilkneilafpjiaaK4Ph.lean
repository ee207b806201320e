/- Plain laws of houses: copies, sizes, and when two are the same. -/
import Derived.Test.YtilkneilafpjiaaK4c
import Derived.Test.YtilkneilafpjiaaK4c
import Derived.Test.YtilkneilafpjiaaK4c
import Derived.Test.YtilkneilafpjiaaVxPure
namespace Go.Proofs.Ytilkneilafpjiaa
open Go.VL
set_option linter.unusedSimpArgs false
set_option linter.unusedVariables false

theorem c45 {a : List Go.VL.F32} (h : a.length ≤ 1048576) : g45 a = some a := by
  have hL : loopO (g45_L1 a) (0, List.replicate (a.length : Int).toNat (some 0)) = some a := by
    have := loop_run (body := g45_L1 a) (fun i => ((i : Int), fill i a (some 0))) a.length (fun i hi => by
      rw [g45_L1]
      simp only [ltI, show ((i : Int) < a.length) = True by simp; omega, decide_true, if_true, idx_nat hi, Option.bind_some, succI (i := i) (by omega)]
      rw [idx_nat (by simpa using hi)]
      simp only [Option.bind_some, Int.toNat_natCast]
      rw [fill_set hi (List.getElem?_eq_getElem hi)]) (r := a) (by
      rw [g45_L1]
      simp [ltI, fill_all])
    simpa [fill_zero] using this
  unfold g45 g45_j1
  rw [mk_of (by omega) (by simp; omega) (by simp; omega)]
  simp only [Option.bind_some]
  rw [hL]
  rfl

theorem c46 {a : List T132} (h : a.length ≤ 1048576) (hf : ∀ x ∈ a, g64 x = some x) : g46 a = some a := by
  have hL : loopO (g46_L1 a) (0, List.replicate (a.length : Int).toNat (⟨0, 0, (some 0), (some 0), (⟨(some 0), (some 0), (some 0), (some 0)⟩ : T109)⟩ : T132)) = some a := by
    have := loop_run (body := g46_L1 a) (fun i => ((i : Int), fill i a (⟨0, 0, (some 0), (some 0), (⟨(some 0), (some 0), (some 0), (some 0)⟩ : T109)⟩ : T132))) a.length (fun i hi => by
      rw [g46_L1]
      simp only [ltI, show ((i : Int) < a.length) = True by simp; omega, decide_true, if_true, idx_nat hi, Option.bind_some, succI (i := i) (by omega), hf _ (List.getElem_mem hi)]
      rw [idx_nat (by simpa using hi)]
      simp only [Option.bind_some, Int.toNat_natCast]
      rw [fill_set hi (List.getElem?_eq_getElem hi)]) (r := a) (by
      rw [g46_L1]
      simp [ltI, fill_all])
    simpa [fill_zero] using this
  unfold g46 g46_j1
  rw [mk_of (by omega) (by simp; omega) (by simp; omega)]
  simp only [Option.bind_some]
  rw [hL]
  rfl

theorem c47 {a : List T134} (h : a.length ≤ 1048576) (hf : ∀ x ∈ a, g65 x = some x) : g47 a = some a := by
  have hL : loopO (g47_L1 a) (0, List.replicate (a.length : Int).toNat (⟨0, 0, (some 0), (some 0)⟩ : T134)) = some a := by
    have := loop_run (body := g47_L1 a) (fun i => ((i : Int), fill i a (⟨0, 0, (some 0), (some 0)⟩ : T134))) a.length (fun i hi => by
      rw [g47_L1]
      simp only [ltI, show ((i : Int) < a.length) = True by simp; omega, decide_true, if_true, idx_nat hi, Option.bind_some, succI (i := i) (by omega), hf _ (List.getElem_mem hi)]
      rw [idx_nat (by simpa using hi)]
      simp only [Option.bind_some, Int.toNat_natCast]
      rw [fill_set hi (List.getElem?_eq_getElem hi)]) (r := a) (by
      rw [g47_L1]
      simp [ltI, fill_all])
    simpa [fill_zero] using this
  unfold g47 g47_j1
  rw [mk_of (by omega) (by simp; omega) (by simp; omega)]
  simp only [Option.bind_some]
  rw [hL]
  rfl

theorem c21 {a : List T105} (h : a.length ≤ 1048576) (hf : ∀ x ∈ a, g48 x = some x) : g21 a = some a := by
  have hL : loopO (g21_L1 a) (0, List.replicate (a.length : Int).toNat (⟨(some 0), (some 0), (some 0), (some 0), 0⟩ : T105)) = some a := by
    have := loop_run (body := g21_L1 a) (fun i => ((i : Int), fill i a (⟨(some 0), (some 0), (some 0), (some 0), 0⟩ : T105))) a.length (fun i hi => by
      rw [g21_L1]
      simp only [ltI, show ((i : Int) < a.length) = True by simp; omega, decide_true, if_true, idx_nat hi, Option.bind_some, succI (i := i) (by omega), hf _ (List.getElem_mem hi)]
      rw [idx_nat (by simpa using hi)]
      simp only [Option.bind_some, Int.toNat_natCast]
      rw [fill_set hi (List.getElem?_eq_getElem hi)]) (r := a) (by
      rw [g21_L1]
      simp [ltI, fill_all])
    simpa [fill_zero] using this
  unfold g21 g21_j1
  rw [mk_of (by omega) (by simp; omega) (by simp; omega)]
  simp only [Option.bind_some]
  rw [hL]
  rfl

theorem c73 {a : List T147} (h : a.length ≤ 1048576) (hf : ∀ x ∈ a, g77 x = some x) : g73 a = some a := by
  have hL : loopO (g73_L1 a) (0, List.replicate (a.length : Int).toNat (⟨(⟨(some 0), (some 0), (some 0), (some 0), (some 0), (some 0)⟩ : T114), (⟨(some 0), (some 0), (some 0), (some 0), (some 0), (some 0)⟩ : T114), (⟨(some 0), (some 0), (some 0), (some 0), (some 0), (some 0)⟩ : T114)⟩ : T147)) = some a := by
    have := loop_run (body := g73_L1 a) (fun i => ((i : Int), fill i a (⟨(⟨(some 0), (some 0), (some 0), (some 0), (some 0), (some 0)⟩ : T114), (⟨(some 0), (some 0), (some 0), (some 0), (some 0), (some 0)⟩ : T114), (⟨(some 0), (some 0), (some 0), (some 0), (some 0), (some 0)⟩ : T114)⟩ : T147))) a.length (fun i hi => by
      rw [g73_L1]
      simp only [ltI, show ((i : Int) < a.length) = True by simp; omega, decide_true, if_true, idx_nat hi, Option.bind_some, succI (i := i) (by omega), hf _ (List.getElem_mem hi)]
      rw [idx_nat (by simpa using hi)]
      simp only [Option.bind_some, Int.toNat_natCast]
      rw [fill_set hi (List.getElem?_eq_getElem hi)]) (r := a) (by
      rw [g73_L1]
      simp [ltI, fill_all])
    simpa [fill_zero] using this
  unfold g73 g73_j1
  rw [mk_of (by omega) (by simp; omega) (by simp; omega)]
  simp only [Option.bind_some]
  rw [hL]
  rfl

theorem c22 {a : List T92} (h : a.length ≤ 1048576) (hf : ∀ x ∈ a, g49 x = some x) : g22 a = some a := by
  have hL : loopO (g22_L1 a) (0, List.replicate (a.length : Int).toNat (⟨0, 0, 0, (⟨[], (some 0), (some 0), 0, 0, (some 0)⟩ : T90)⟩ : T92)) = some a := by
    have := loop_run (body := g22_L1 a) (fun i => ((i : Int), fill i a (⟨0, 0, 0, (⟨[], (some 0), (some 0), 0, 0, (some 0)⟩ : T90)⟩ : T92))) a.length (fun i hi => by
      rw [g22_L1]
      simp only [ltI, show ((i : Int) < a.length) = True by simp; omega, decide_true, if_true, idx_nat hi, Option.bind_some, succI (i := i) (by omega), hf _ (List.getElem_mem hi)]
      rw [idx_nat (by simpa using hi)]
      simp only [Option.bind_some, Int.toNat_natCast]
      rw [fill_set hi (List.getElem?_eq_getElem hi)]) (r := a) (by
      rw [g22_L1]
      simp [ltI, fill_all])
    simpa [fill_zero] using this
  unfold g22 g22_j1
  rw [mk_of (by omega) (by simp; omega) (by simp; omega)]
  simp only [Option.bind_some]
  rw [hL]
  rfl

theorem c23 {a : List ByteArray} (h : a.length ≤ 1048576) : g23 a = some a := by
  have hL : loopO (g23_L1 a) (0, List.replicate (a.length : Int).toNat ByteArray.empty) = some a := by
    have := loop_run (body := g23_L1 a) (fun i => ((i : Int), fill i a ByteArray.empty)) a.length (fun i hi => by
      rw [g23_L1]
      simp only [ltI, show ((i : Int) < a.length) = True by simp; omega, decide_true, if_true, idx_nat hi, Option.bind_some, succI (i := i) (by omega)]
      rw [idx_nat (by simpa using hi)]
      simp only [Option.bind_some, Int.toNat_natCast]
      rw [fill_set hi (List.getElem?_eq_getElem hi)]) (r := a) (by
      rw [g23_L1]
      simp [ltI, fill_all])
    simpa [fill_zero] using this
  unfold g23 g23_j1
  rw [mk_of (by omega) (by simp; omega) (by simp; omega)]
  simp only [Option.bind_some]
  rw [hL]
  rfl

theorem c24 {a : List T108} (h : a.length ≤ 1048576) (hf : ∀ x ∈ a, g50 x = some x) : g24 a = some a := by
  have hL : loopO (g24_L1 a) (0, List.replicate (a.length : Int).toNat (⟨(some 0), (some 0), (some 0)⟩ : T108)) = some a := by
    have := loop_run (body := g24_L1 a) (fun i => ((i : Int), fill i a (⟨(some 0), (some 0), (some 0)⟩ : T108))) a.length (fun i hi => by
      rw [g24_L1]
      simp only [ltI, show ((i : Int) < a.length) = True by simp; omega, decide_true, if_true, idx_nat hi, Option.bind_some, succI (i := i) (by omega), hf _ (List.getElem_mem hi)]
      rw [idx_nat (by simpa using hi)]
      simp only [Option.bind_some, Int.toNat_natCast]
      rw [fill_set hi (List.getElem?_eq_getElem hi)]) (r := a) (by
      rw [g24_L1]
      simp [ltI, fill_all])
    simpa [fill_zero] using this
  unfold g24 g24_j1
  rw [mk_of (by omega) (by simp; omega) (by simp; omega)]
  simp only [Option.bind_some]
  rw [hL]
  rfl

structure SmallFlat (a : T30) : Prop where
  heat : a.heat_.length ≤ 1048576
  store : a.store_.length ≤ 1048576
  walls : a.walls_.length ≤ 1048576
  panes : a.panes_.length ≤ 1048576
structure SmallHouse (a : T38) : Prop where
  flat : SmallFlat a.flat_
  chimney : a.chimney_.length ≤ 1048576
  hearths : a.hearths_.length ≤ 1048576
  logs : ∀ x ∈ a.hearths_, x.stove_.logs_.length ≤ 1048576
  sources : a.sources_.length ≤ 1048576
  hours : a.hours_.length ≤ 1048576

theorem c20 {a : T30} (h : SmallFlat a) : g20 a = some a := by
  unfold g20
  rw [c45 h.heat, Option.bind_some, c45 h.store, Option.bind_some, c46 h.walls (fun x _ => rfl), Option.bind_some, c47 h.panes (fun x _ => rfl), Option.bind_some]
theorem c66 {a : T90} (h : a.logs_.length ≤ 1048576) : g66 a = some a := by
  unfold g66
  rw [c73 h (fun x _ => rfl), Option.bind_some]
theorem c9 {a : T38} (h : SmallHouse a) : g9 a = some a := by
  unfold g9
  rw [c20 h.flat, Option.bind_some, c21 h.chimney (fun x _ => rfl), Option.bind_some, c22 h.hearths (fun x hx => by unfold g49; rw [c66 (h.logs x hx)]; rfl), Option.bind_some, c23 h.sources, Option.bind_some, c24 h.hours (fun x _ => rfl), Option.bind_some]
  rfl

theorem q59 (y : Go.VL.F32) : g59 y y = some true := by
  unfold g59
  cases hn : neF .f64 y y
  · have he : eqF .f64 y y = true := by
      unfold neF at hn
      unfold eqF
      simpa using hn
    rw [he]
    simp
  · simp

theorem q74 (a : T109) : g74 a a = some true := by
  unfold g74
  simp [q59, g74_j1]
theorem q80 (a : T114) : g80 a a = some true := by
  unfold g80
  simp [q59, g80_j1]
theorem q67 (a : T132) : g67 a a = some true := by
  unfold g67
  simp [eqI, q59, q74]
theorem q68 (a : T134) : g68 a a = some true := by
  unfold g68
  simp [eqI, q59]
theorem q56 (a : T105) : g56 a a = some true := by
  unfold g56
  simp [eqI, q59]
theorem q78 (a : T147) : g78 a a = some true := by
  unfold g78
  simp [eqI, q80]
theorem q58 (a : T108) : g58 a a = some true := by
  unfold g58
  simp [eqI, q59]
theorem q36 (a : T105) : g36 a a = some true := by
  unfold g36
  simp [eqI, q59]
theorem q53 {a : List Go.VL.F32} (h : a.length ≤ 1048576) : g53 a a = some true := by
  have hL := loop_scan (body := g53_L1 a a) (n := a.length) (fun _ => none) (.inl ()) (fun i hi => by
    rw [g53_L1]
    simp only [ltI, show ((i : Int) < a.length) = True by simp; omega, decide_true, if_true, idx_nat hi, Option.bind_some, succI (i := i) (by omega), Bool.not_true, q59]
    simp) (by rw [g53_L1]; simp [ltI])
  rw [show (List.range a.length).findSome? (fun _ => (none : Option (Unit ⊕ Bool))) = none by simp] at hL
  unfold g53
  rw [hL]
  simp [eqI, g53_j1]

theorem q54 {a : List T132} (h : a.length ≤ 1048576) : g54 a a = some true := by
  have hL := loop_scan (body := g54_L1 a a) (n := a.length) (fun _ => none) (.inl ()) (fun i hi => by
    rw [g54_L1]
    simp only [ltI, show ((i : Int) < a.length) = True by simp; omega, decide_true, if_true, idx_nat hi, Option.bind_some, succI (i := i) (by omega), Bool.not_true, q67]
    simp) (by rw [g54_L1]; simp [ltI])
  rw [show (List.range a.length).findSome? (fun _ => (none : Option (Unit ⊕ Bool))) = none by simp] at hL
  unfold g54
  rw [hL]
  simp [eqI, g54_j1]

theorem q55 {a : List T134} (h : a.length ≤ 1048576) : g55 a a = some true := by
  have hL := loop_scan (body := g55_L1 a a) (n := a.length) (fun _ => none) (.inl ()) (fun i hi => by
    rw [g55_L1]
    simp only [ltI, show ((i : Int) < a.length) = True by simp; omega, decide_true, if_true, idx_nat hi, Option.bind_some, succI (i := i) (by omega), Bool.not_true, q68]
    simp) (by rw [g55_L1]; simp [ltI])
  rw [show (List.range a.length).findSome? (fun _ => (none : Option (Unit ⊕ Bool))) = none by simp] at hL
  unfold g55
  rw [hL]
  simp [eqI, g55_j1]

theorem q32 {a : List T105} (h : a.length ≤ 1048576) : g32 a a = some true := by
  have hL := loop_scan (body := g32_L1 a a) (n := a.length) (fun _ => none) (.inl ()) (fun i hi => by
    rw [g32_L1]
    simp only [ltI, show ((i : Int) < a.length) = True by simp; omega, decide_true, if_true, idx_nat hi, Option.bind_some, succI (i := i) (by omega), Bool.not_true, q56]
    simp) (by rw [g32_L1]; simp [ltI])
  rw [show (List.range a.length).findSome? (fun _ => (none : Option (Unit ⊕ Bool))) = none by simp] at hL
  unfold g32
  rw [hL]
  simp [eqI, g32_j1]

theorem q75 {a : List T147} (h : a.length ≤ 1048576) : g75 a a = some true := by
  have hL := loop_scan (body := g75_L1 a a) (n := a.length) (fun _ => none) (.inl ()) (fun i hi => by
    rw [g75_L1]
    simp only [ltI, show ((i : Int) < a.length) = True by simp; omega, decide_true, if_true, idx_nat hi, Option.bind_some, succI (i := i) (by omega), Bool.not_true, q78]
    simp) (by rw [g75_L1]; simp [ltI])
  rw [show (List.range a.length).findSome? (fun _ => (none : Option (Unit ⊕ Bool))) = none by simp] at hL
  unfold g75
  rw [hL]
  simp [eqI, g75_j1]

theorem q33 {a : List T92} (h : a.length ≤ 1048576) (hf : ∀ x ∈ a, g57 x x = some true) : g33 a a = some true := by
  have hL := loop_scan (body := g33_L1 a a) (n := a.length) (fun _ => none) (.inl ()) (fun i hi => by
    rw [g33_L1]
    simp only [ltI, show ((i : Int) < a.length) = True by simp; omega, decide_true, if_true, idx_nat hi, Option.bind_some, succI (i := i) (by omega), Bool.not_true, hf _ (List.getElem_mem hi)]
    simp) (by rw [g33_L1]; simp [ltI])
  rw [show (List.range a.length).findSome? (fun _ => (none : Option (Unit ⊕ Bool))) = none by simp] at hL
  unfold g33
  rw [hL]
  simp [eqI, g33_j1]

theorem q34 {a : List ByteArray} (h : a.length ≤ 1048576) : g34 a a = some true := by
  have hL := loop_scan (body := g34_L1 a a) (n := a.length) (fun _ => none) (.inl ()) (fun i hi => by
    rw [g34_L1]
    simp only [ltI, show ((i : Int) < a.length) = True by simp; omega, decide_true, if_true, idx_nat hi, Option.bind_some, succI (i := i) (by omega), Bool.not_true, eqS, BEq.rfl]
    simp) (by rw [g34_L1]; simp [ltI])
  rw [show (List.range a.length).findSome? (fun _ => (none : Option (Unit ⊕ Bool))) = none by simp] at hL
  unfold g34
  rw [hL]
  simp [eqI, g34_j1]

theorem q35 {a : List T108} (h : a.length ≤ 1048576) : g35 a a = some true := by
  have hL := loop_scan (body := g35_L1 a a) (n := a.length) (fun _ => none) (.inl ()) (fun i hi => by
    rw [g35_L1]
    simp only [ltI, show ((i : Int) < a.length) = True by simp; omega, decide_true, if_true, idx_nat hi, Option.bind_some, succI (i := i) (by omega), Bool.not_true, q58]
    simp) (by rw [g35_L1]; simp [ltI])
  rw [show (List.range a.length).findSome? (fun _ => (none : Option (Unit ⊕ Bool))) = none by simp] at hL
  unfold g35
  rw [hL]
  simp [eqI, g35_j1]

theorem q31 {a : T30} (h : SmallFlat a) : g31 a a = some true := by
  unfold g31
  simp [q53 h.heat, q53 h.store, q54 h.walls, q55 h.panes]
theorem q69 {a : T90} (h : a.logs_.length ≤ 1048576) : g69 a a = some true := by
  unfold g69
  simp [q75 h, q59, eqI]
theorem q11 {a : T38} (h : SmallHouse a) : g11 a a = some true := by
  unfold g11
  simp [q31 h.flat, q32 h.chimney, q33 h.hearths (fun x hx => by unfold g57; simp [eqI, q69 (h.logs x hx)]), q34 h.sources, q35 h.hours, q36, eqI]

theorem z37 {a : List Go.VL.F32} {n : Int} (h : a.length ≤ maxLen) (h1 : 0 ≤ n) (h2 : n ≤ 1048576) : ∃ r, g37 a n = some r ∧ (r = -1 ∨ (0 ≤ r ∧ r ≤ n ∧ a.length ≤ 1048576)) := by
  have hm : maxLen = 9223372036854775807 := by decide
  unfold g37
  rw [sI64 (by omega) (by omega)]
  simp only [ltI, decide_eq_true_eq]
  by_cases hc : n < a.length
  · rw [if_pos (by omega)]
    exact ⟨-1, rfl, .inl rfl⟩
  · rw [if_neg (by omega)]
    exact ⟨_, rfl, .inr ⟨by omega, by omega, by omega⟩⟩
theorem z38 {a : List T132} {n : Int} (h : a.length ≤ maxLen) (h1 : 0 ≤ n) (h2 : n ≤ 1048576) : ∃ r, g38 a n = some r ∧ (r = -1 ∨ (0 ≤ r ∧ r ≤ n ∧ a.length ≤ 1048576)) := by
  have hm : maxLen = 9223372036854775807 := by decide
  unfold g38
  rw [sI64 (by omega) (by omega)]
  simp only [ltI, decide_eq_true_eq]
  by_cases hc : n < a.length
  · rw [if_pos (by omega)]
    exact ⟨-1, rfl, .inl rfl⟩
  · rw [if_neg (by omega)]
    exact ⟨_, rfl, .inr ⟨by omega, by omega, by omega⟩⟩
theorem z39 {a : List T134} {n : Int} (h : a.length ≤ maxLen) (h1 : 0 ≤ n) (h2 : n ≤ 1048576) : ∃ r, g39 a n = some r ∧ (r = -1 ∨ (0 ≤ r ∧ r ≤ n ∧ a.length ≤ 1048576)) := by
  have hm : maxLen = 9223372036854775807 := by decide
  unfold g39
  rw [sI64 (by omega) (by omega)]
  simp only [ltI, decide_eq_true_eq]
  by_cases hc : n < a.length
  · rw [if_pos (by omega)]
    exact ⟨-1, rfl, .inl rfl⟩
  · rw [if_neg (by omega)]
    exact ⟨_, rfl, .inr ⟨by omega, by omega, by omega⟩⟩
theorem z15 {a : List T105} {n : Int} (h : a.length ≤ maxLen) (h1 : 0 ≤ n) (h2 : n ≤ 1048576) : ∃ r, g15 a n = some r ∧ (r = -1 ∨ (0 ≤ r ∧ r ≤ n ∧ a.length ≤ 1048576)) := by
  have hm : maxLen = 9223372036854775807 := by decide
  unfold g15
  rw [sI64 (by omega) (by omega)]
  simp only [ltI, decide_eq_true_eq]
  by_cases hc : n < a.length
  · rw [if_pos (by omega)]
    exact ⟨-1, rfl, .inl rfl⟩
  · rw [if_neg (by omega)]
    exact ⟨_, rfl, .inr ⟨by omega, by omega, by omega⟩⟩
theorem z70 {a : List T147} {n : Int} (h : a.length ≤ maxLen) (h1 : 0 ≤ n) (h2 : n ≤ 1048576) : ∃ r, g70 a n = some r ∧ (r = -1 ∨ (0 ≤ r ∧ r ≤ n ∧ a.length ≤ 1048576)) := by
  have hm : maxLen = 9223372036854775807 := by decide
  unfold g70
  rw [sI64 (by omega) (by omega)]
  simp only [ltI, decide_eq_true_eq]
  by_cases hc : n < a.length
  · rw [if_pos (by omega)]
    exact ⟨-1, rfl, .inl rfl⟩
  · rw [if_neg (by omega)]
    exact ⟨_, rfl, .inr ⟨by omega, by omega, by omega⟩⟩
theorem z18 {a : List T108} {n : Int} (h : a.length ≤ maxLen) (h1 : 0 ≤ n) (h2 : n ≤ 1048576) : ∃ r, g18 a n = some r ∧ (r = -1 ∨ (0 ≤ r ∧ r ≤ n ∧ a.length ≤ 1048576)) := by
  have hm : maxLen = 9223372036854775807 := by decide
  unfold g18
  rw [sI64 (by omega) (by omega)]
  simp only [ltI, decide_eq_true_eq]
  by_cases hc : n < a.length
  · rw [if_pos (by omega)]
    exact ⟨-1, rfl, .inl rfl⟩
  · rw [if_neg (by omega)]
    exact ⟨_, rfl, .inr ⟨by omega, by omega, by omega⟩⟩
structure LenFlat (a : T30) : Prop where
  heat : a.heat_.length ≤ maxLen
  store : a.store_.length ≤ maxLen
  walls : a.walls_.length ≤ maxLen
  panes : a.panes_.length ≤ maxLen
structure LenHouse (a : T38) : Prop where
  flat : LenFlat a.flat_
  chimney : a.chimney_.length ≤ maxLen
  hearths : a.hearths_.length ≤ maxLen
  logs : ∀ x ∈ a.hearths_, x.stove_.logs_.length ≤ maxLen
  sources : a.sources_.length ≤ maxLen
  words : ∀ x ∈ a.sources_, x.size ≤ maxLen
  hours : a.hours_.length ≤ maxLen

theorem z14 {a : T30} {n : Int} (h : LenFlat a) (h1 : 0 ≤ n) (h2 : n ≤ 1048576) : ∃ r, g14 a n = some r ∧ (r = -1 ∨ (0 ≤ r ∧ r ≤ n ∧ SmallFlat a)) := by
  unfold g14
  obtain ⟨r1, e1, k1⟩ := z37 h.heat h1 h2
  rw [e1, Option.bind_some]
  rcases k1 with rfl | ⟨a1, b1, c1⟩
  · exact ⟨-1, by simp [ltI], .inl rfl⟩
  rw [if_neg (by simp [ltI]; omega)]
  obtain ⟨r2, e2, k2⟩ := z37 h.store a1 (by omega)
  rw [e2, Option.bind_some]
  rcases k2 with rfl | ⟨a2, b2, c2⟩
  · exact ⟨-1, by simp [ltI], .inl rfl⟩
  rw [if_neg (by simp [ltI]; omega)]
  obtain ⟨r3, e3, k3⟩ := z38 h.walls a2 (by omega)
  rw [e3, Option.bind_some]
  rcases k3 with rfl | ⟨a3, b3, c3⟩
  · exact ⟨-1, by simp [ltI], .inl rfl⟩
  rw [if_neg (by simp [ltI]; omega)]
  obtain ⟨r4, e4, k4⟩ := z39 h.panes a3 (by omega)
  rw [e4, Option.bind_some]
  rcases k4 with rfl | ⟨a4, b4, c4⟩
  · exact ⟨-1, by simp [ltI], .inl rfl⟩
  rw [if_neg (by simp [ltI]; omega)]
  exact ⟨_, rfl, .inr ⟨a4, by omega, c1, c2, c3, c4⟩⟩
theorem z40 {a : T92} {n : Int} (h : a.stove_.logs_.length ≤ maxLen) (h1 : 0 ≤ n) (h2 : n ≤ 1048576) : ∃ r, g40 a n = some r ∧ (r = -1 ∨ (0 ≤ r ∧ r ≤ n ∧ a.stove_.logs_.length ≤ 1048576)) := by
  unfold g40 g60
  obtain ⟨r1, e1, k1⟩ := z70 h h1 h2
  rw [e1, Option.bind_some]
  rcases k1 with rfl | ⟨a1, b1, c1⟩
  · exact ⟨-1, by simp [ltI], .inl rfl⟩
  rw [if_neg (by simp [ltI]; omega), Option.bind_some, if_neg (by simp [ltI]; omega)]
  exact ⟨_, rfl, .inr ⟨a1, b1, c1⟩⟩
theorem z16 {a : List T92} {n : Int} (h : a.length ≤ maxLen) (hl : ∀ x ∈ a, x.stove_.logs_.length ≤ maxLen) (h1 : 0 ≤ n) (h2 : n ≤ 1048576) : ∃ r, g16 a n = some r ∧ (r = -1 ∨ (0 ≤ r ∧ r ≤ n ∧ a.length ≤ 1048576 ∧ ∀ x ∈ a, x.stove_.logs_.length ≤ 1048576)) := by
  have hm : maxLen = 9223372036854775807 := by decide
  unfold g16
  rw [sI64 (by omega) (by omega)]
  by_cases hc : n < a.length
  · rw [if_pos (by simp [ltI]; omega)]
    exact ⟨-1, rfl, .inl rfl⟩
  rw [if_neg (by simp [ltI]; omega)]
  obtain ⟨r, e, hr⟩ := loopO_rule (body := g16_L1 a) (fun z => a.length - z.2.toNat) (fun z => 0 ≤ z.1 ∧ z.1 ≤ n ∧ ∃ q : Nat, z.2 = q ∧ q ≤ a.length ∧ ∀ j (hj : j < a.length), j < q → a[j].stove_.logs_.length ≤ 1048576)
    (fun r => match r with
      | .inl y => 0 ≤ y ∧ y ≤ n ∧ ∀ x ∈ a, x.stove_.logs_.length ≤ 1048576
      | .inr y => y = -1) (fun z ⟨x1, x2, q, x3, x4, x5⟩ => by
      obtain ⟨left, i⟩ := z
      simp only at x1 x2 x3
      subst x3
      rw [g16_L1]
      by_cases hq : q < a.length
      · rw [if_pos (by simp [ltI]; omega), idx_nat hq, Option.bind_some]
        obtain ⟨r1, e1, k1⟩ := z40 (hl _ (List.getElem_mem hq)) x1 (by omega)
        rw [e1, Option.bind_some]
        rcases k1 with rfl | ⟨a1, b1, c1⟩
        · right
          exact ⟨.inr (-1), by simp [ltI], rfl⟩
        · left
          rw [if_neg (by simp [ltI]; omega), succI (by omega)]
          refine ⟨_, rfl, ⟨a1, by simp only; omega, q + 1, rfl, by omega, fun j hj hjq => ?_⟩, by simp only; omega⟩
          by_cases hjj : j = q
          · subst hjj; exact c1
          · exact x5 j hj (by omega)
      · right
        rw [if_neg (by simp [ltI]; omega)]
        refine ⟨.inl left, rfl, x1, x2, fun x hx => ?_⟩
        obtain ⟨j, hj, rfl⟩ := List.getElem_of_mem hx
        exact x5 j hj (by omega)) (s := (n - (a.length : Int), 0)) ⟨by simp only; omega, by simp only; omega, 0, rfl, by omega, fun j hj h => by omega⟩
  rw [e, Option.bind_some]
  cases r with
  | inl y =>
    obtain ⟨y1, y2, y3⟩ := hr
    exact ⟨y, rfl, .inr ⟨y1, y2, by omega, y3⟩⟩
  | inr y => exact ⟨y, rfl, .inl hr⟩
theorem z17 {a : List ByteArray} {n : Int} (h : a.length ≤ maxLen) (hl : ∀ x ∈ a, x.size ≤ maxLen) (h1 : 0 ≤ n) (h2 : n ≤ 1048576) : ∃ r, g17 a n = some r ∧ (r = -1 ∨ (0 ≤ r ∧ r ≤ n ∧ a.length ≤ 1048576)) := by
  have hm : maxLen = 9223372036854775807 := by decide
  unfold g17
  rw [sI64 (by omega) (by omega)]
  by_cases hc : n < a.length
  · rw [if_pos (by simp [ltI]; omega)]
    exact ⟨-1, rfl, .inl rfl⟩
  rw [if_neg (by simp [ltI]; omega)]
  obtain ⟨r, e, hr⟩ := loopO_rule (body := g17_L1 a) (fun z => a.length - z.2.toNat) (fun z => 0 ≤ z.1 ∧ z.1 ≤ n ∧ ∃ q : Nat, z.2 = q ∧ q ≤ a.length)
    (fun r => match r with
      | .inl y => 0 ≤ y ∧ y ≤ n
      | .inr y => y = -1) (fun z ⟨x1, x2, q, x3, x4⟩ => by
      obtain ⟨left, i⟩ := z
      simp only at x1 x2 x3
      subst x3
      rw [g17_L1]
      by_cases hq : q < a.length
      · have hx := hl _ (List.getElem_mem hq)
        rw [if_pos (by simp [ltI]; omega), idx_nat hq, Option.bind_some, sI64 (by omega) (by omega)]
        by_cases hs : left < (a[q].size : Int)
        · right
          exact ⟨.inr (-1), by rw [if_pos (by simp [ltI]; omega)], rfl⟩
        · left
          rw [if_neg (by simp [ltI]; omega), succI (by omega)]
          exact ⟨_, rfl, ⟨by simp only; omega, by simp only; omega, q + 1, rfl, by omega⟩, by simp only; omega⟩
      · right
        rw [if_neg (by simp [ltI]; omega)]
        exact ⟨.inl left, rfl, x1, x2⟩) (s := (n - (a.length : Int), 0)) ⟨by simp only; omega, by simp only; omega, 0, rfl, by omega⟩
  rw [e, Option.bind_some]
  cases r with
  | inl y => exact ⟨y, rfl, .inr ⟨hr.1, hr.2, by omega⟩⟩
  | inr y => exact ⟨y, rfl, .inl hr⟩
theorem z7 {a : T38} {n : Int} (h : LenHouse a) (h1 : 0 ≤ n) (h2 : n ≤ 1048576) : ∃ r, g7 a n = some r ∧ (r = -1 ∨ (0 ≤ r ∧ r ≤ n ∧ SmallHouse a)) := by
  unfold g7
  obtain ⟨r1, e1, k1⟩ := z14 h.flat h1 h2
  rw [e1, Option.bind_some]
  rcases k1 with rfl | ⟨a1, b1, c1⟩
  · exact ⟨-1, by simp [ltI], .inl rfl⟩
  rw [if_neg (by simp [ltI]; omega)]
  obtain ⟨r2, e2, k2⟩ := z15 h.chimney a1 (by omega)
  rw [e2, Option.bind_some]
  rcases k2 with rfl | ⟨a2, b2, c2⟩
  · exact ⟨-1, by simp [ltI], .inl rfl⟩
  rw [if_neg (by simp [ltI]; omega)]
  obtain ⟨r3, e3, k3⟩ := z16 h.hearths h.logs a2 (by omega)
  rw [e3, Option.bind_some]
  rcases k3 with rfl | ⟨a3, b3, c3⟩
  · exact ⟨-1, by simp [ltI], .inl rfl⟩
  rw [if_neg (by simp [ltI]; omega)]
  obtain ⟨r4, e4, k4⟩ := z17 h.sources h.words a3 (by omega)
  rw [e4, Option.bind_some]
  rcases k4 with rfl | ⟨a4, b4, c4⟩
  · exact ⟨-1, by simp [ltI], .inl rfl⟩
  rw [if_neg (by simp [ltI]; omega)]
  obtain ⟨r5, e5, k5⟩ := z18 h.hours a4 (by omega)
  rw [e5, Option.bind_some]
  rcases k5 with rfl | ⟨a5, b5, c5⟩
  · exact ⟨-1, by simp [ltI], .inl rfl⟩
  rw [if_neg (by simp [ltI]; omega)]
  exact ⟨_, rfl, .inr ⟨a5, by omega, c1, c2, c3.1, c3.2, c4, c5⟩⟩

end Go.Proofs.Ytilkneilafpjiaa
