/- Plain laws: the two comparisons of houses. -/
import Derived.Test.YtilkneilafpjiaaK4Ph
import Derived.Test.YtilkneilafpjiaaK4c
import Derived.Test.YtilkneilafpjiaaK4c
import Derived.Test.YtilkneilafpjiaaK4c
import Derived.Test.YtilkneilafpjiaaK4c
import Derived.Test.YtilkneilafpjiaaK4c
import Derived.Test.YtilkneilafpjiaaK4c
namespace Go.Proofs.Ytilkneilafpjiaa
open Go.VL
set_option linter.unusedSimpArgs false
set_option linter.unusedVariables false

/-- The same number. -/
noncomputable def fb (a b : Go.VL.F32) : Bool := (g44 a b).getD false
theorem g44_eq (a b : Go.VL.F32) : g44 a b = some (fb a b) := by
  unfold fb
  suffices h : ∃ x, g44 a b = some x by
    obtain ⟨x, h⟩ := h
    rw [h]
    rfl
  unfold g44
  by_cases h : (neF .f32 a a || neF .f32 b b) = true
  · rw [if_pos h]; exact ⟨_, rfl⟩
  · rw [if_neg h]
    cases a with
    | none => exact absurd (by rfl) h
    | some x =>
      cases b with
      | none => exact absurd (by simp [neF, ford]) h
      | some y => exact ⟨_, rfl⟩
theorem g51_eq (a b : Go.VL.F32) : g51 a b = some (fb a b) := g44_eq a b

/-- A loop that compares: it ends, and tells whether all are the same. -/
theorem scan_tot {body : Int → Option (Int ⊕ (Unit ⊕ Bool))} {n : Nat} (hn : n ≤ 1048576) (hb : ∀ i : Nat, i < n → ∃ c : Bool, body (i : Int) = if c = true then some (.inr (.inr false)) else some (.inl (aI .i64 i 1))) (he : body (n : Int) = some (.inr (.inl ()))) : ∃ b : Bool, loopO body 0 = some (if b = true then .inl () else .inr false) := by
  obtain ⟨r, e, h⟩ := loopO_rule (body := body) (fun i => n - i.toNat) (fun i => ∃ q : Nat, i = q ∧ q ≤ n) (fun r => r = .inl () ∨ r = .inr false) (fun i ⟨q, hq, hle⟩ => by
    subst hq
    by_cases hlt : q < n
    · obtain ⟨c, hc⟩ := hb q hlt
      rw [hc]
      cases c
      · left
        rw [succI (by omega)]
        exact ⟨_, by simp, ⟨q + 1, rfl, by omega⟩, by omega⟩
      · right
        exact ⟨_, by simp, .inr rfl⟩
    · right
      have : q = n := by omega
      subst this
      exact ⟨_, he, .inl rfl⟩) (s := 0) ⟨0, rfl, by omega⟩
  rcases h with rfl | rfl
  · exact ⟨true, e⟩
  · exact ⟨false, e⟩

theorem nums_tot {a b : List Go.VL.F32} (h : a.length ≤ 1048576) : ∃ x, g61 a b = some x := by
  unfold g61
  by_cases hl : a.length = b.length
  · rw [if_neg (by simp [eqI, hl])]
    obtain ⟨x, hx⟩ := scan_tot (body := g61_L1 a b) h (fun i hi => ⟨!fb a[i] (b[i]'(by omega)), by
      rw [g61_L1, if_pos (by simp [ltI]; omega), idx_nat hi, Option.bind_some, idx_nat (show i < b.length by omega), Option.bind_some, g44_eq, Option.bind_some]⟩) (by rw [g61_L1, if_neg (by simp [ltI])])
    rw [hx]
    cases x <;> exact ⟨_, rfl⟩
  · rw [if_pos (by simp [eqI]; omega)]
    exact ⟨_, rfl⟩

/-- The numbers in two rows of the same known length. -/
theorem nums_step {a b : List Go.VL.F32} {n : Nat} (hl : a.length = n) (hl2 : b.length = n) (hn : n ≤ 100) : g61 a b = some ((List.range n).all fun i => fb (a.getD i none) (b.getD i none)) := by
  unfold g61
  rw [if_neg (by simp [eqI, hl, hl2])]
  have hL := loop_scan (body := g61_L1 a b) (n := n) (fun i => if fb (a.getD i none) (b.getD i none) = true then none else some (.inr false)) (.inl ()) (fun i hi => by
    rw [g61_L1, if_pos (by simp [ltI]; omega), idx_nat (show i < a.length by omega), Option.bind_some, idx_nat (show i < b.length by omega), Option.bind_some, g44_eq, Option.bind_some, succI (by omega)]
    have e1 : a.getD i none = a[i] := by simp [List.getD, show i < a.length by omega]
    have e2 : b.getD i none = b[i] := by simp [List.getD, show i < b.length by omega]
    rw [e1, e2]
    cases fb a[i] b[i] <;> rfl) (by rw [g61_L1, if_neg (by simp [ltI]; omega)])
  rw [hL]
  cases hall : (List.range n).all fun i => fb (a.getD i none) (b.getD i none)
  · have : (List.range n).findSome? (fun i => if fb (a.getD i none) (b.getD i none) = true then none else some (.inr false : Unit ⊕ Bool)) = some (.inr false) := by
      obtain ⟨i, hi, h2⟩ := List.all_eq_false.1 hall
      cases hf : (List.range n).findSome? (fun i => if fb (a.getD i none) (b.getD i none) = true then none else some (.inr false : Unit ⊕ Bool)) with
      | none =>
        have := List.findSome?_eq_none_iff.1 hf i hi
        simp at h2
        simp [h2] at this
      | some r =>
        obtain ⟨i, _, h3, _⟩ := range_some hf
        split at h3
        · cases h3
        · rw [← h3]
    rw [this]
    rfl
  · have : (List.range n).findSome? (fun i => if fb (a.getD i none) (b.getD i none) = true then none else some (.inr false : Unit ⊕ Bool)) = none := by
      rw [List.findSome?_eq_none_iff]
      intro i hi
      have := List.all_eq_true.1 hall i hi
      exact if_pos this
    rw [this]
    rfl
theorem g30_61 (a b : List Go.VL.F32) : g30 a b = g61 a b := rfl
theorem nums3 (a0 a1 a2 b0 b1 b2 : Go.VL.F32) : g30 [a0, a1, a2] [b0, b1, b2] = some (fb a0 b0 && (fb a1 b1 && fb a2 b2)) := by
  rw [g30_61, nums_step (n := 3) rfl rfl (by omega)]
  simp [List.range_succ, Bool.and_assoc]
theorem nums4 (a0 a1 a2 a3 b0 b1 b2 b3 : Go.VL.F32) : g30 [a0, a1, a2, a3] [b0, b1, b2, b3] = some (fb a0 b0 && (fb a1 b1 && (fb a2 b2 && fb a3 b3))) := by
  rw [g30_61, nums_step (n := 4) rfl rfl (by omega)]
  simp [List.range_succ, Bool.and_assoc]
theorem nums6 (a0 a1 a2 a3 a4 a5 b0 b1 b2 b3 b4 b5 : Go.VL.F32) : g30 [a0, a1, a2, a3, a4, a5] [b0, b1, b2, b3, b4, b5] = some (fb a0 b0 && (fb a1 b1 && (fb a2 b2 && (fb a3 b3 && (fb a4 b4 && fb a5 b5))))) := by
  rw [g30_61, nums_step (n := 6) rfl rfl (by omega)]
  simp [List.range_succ, Bool.and_assoc]

theorem flat_same (f g : T30) : g26 f g = g41 f g := rfl
theorem row_same (a b : T114) : g76 a b = some (fb a.a0_ b.a0_ && (fb a.a1_ b.a1_ && (fb a.a2_ b.a2_ && (fb a.a3_ b.a3_ && (fb a.a4_ b.a4_ && fb a.a5_ b.a5_))))) := by
  unfold g76 g76_j1
  simp only [g44_eq, Option.bind_some]
  generalize fb a.a0_ b.a0_ = x0
  generalize fb a.a1_ b.a1_ = x1
  generalize fb a.a2_ b.a2_ = x2
  generalize fb a.a3_ b.a3_ = x3
  generalize fb a.a4_ b.a4_ = x4
  generalize fb a.a5_ b.a5_ = x5
  cases x0 <;> cases x1 <;> cases x2 <;> cases x3 <;> cases x4 <;> cases x5 <;> rfl
theorem wood_same (w v : T147) : g52 w v = g71 w v := by
  unfold g52 g71
  simp only [nums6, row_same, Option.bind_some]
theorem wood_tot (w v : T147) : ∃ x, g71 w v = some x := by
  unfold g71
  simp only [row_same, Option.bind_some]
  generalize (fb w.wet_.a0_ v.wet_.a0_ && _) = x0
  generalize (fb w.heat_.a0_ v.heat_.a0_ && _) = x1
  generalize (fb w.fuel_.a0_ v.fuel_.a0_ && _) = x2
  cases x0 <;> cases x1 <;> exact ⟨_, rfl⟩
theorem stove_loop (s r : T90) : g29_L1 s r = g62_L1 s r := by
  funext i
  simp only [g29_L1, g62_L1, wood_same]
theorem stove_same (s r : T90) : g29 s r = g43 s r := by
  have : g29 s r = g62 s r := by
    unfold g29 g62
    rw [stove_loop]
    rfl
  rw [this]
  unfold g43
  cases g62 s r <;> rfl
theorem stove_tot {s r : T90} (h : s.logs_.length ≤ 1048576) : ∃ x, g43 s r = some x := by
  suffices hs : ∃ x, g62 s r = some x by
    obtain ⟨x, hx⟩ := hs
    unfold g43
    rw [hx]
    exact ⟨_, rfl⟩
  unfold g62
  cases hc : (((!eqI (s.logs_.length : Int) (r.logs_.length : Int)) || (!eqI s.state_ r.state_)) || (!eqI s.ash_ r.ash_))
  rotate_left
  · exact ⟨_, rfl⟩
  · have hl : s.logs_.length = r.logs_.length := by
      simp [eqI] at hc
      omega
    obtain ⟨x, hx⟩ := scan_tot (body := g62_L1 s r) h (fun i hi => by
      obtain ⟨y, hy⟩ := wood_tot s.logs_[i] (r.logs_[i]'(by omega))
      exact ⟨!y, by rw [g62_L1, if_pos (by simp [ltI]; omega), idx_nat hi, Option.bind_some, idx_nat (show i < r.logs_.length by omega), Option.bind_some, hy, Option.bind_some]⟩) (by rw [g62_L1, if_neg (by simp [ltI])])
    rw [if_neg (by simp), hx]
    unfold g62_j1
    simp only [g44_eq, Option.bind_some]
    cases x
    · exact ⟨_, rfl⟩
    · cases fb s.box_ r.box_ <;> cases fb s.damper_ r.damper_ <;> exact ⟨_, rfl⟩

theorem chim_loop (c d : List T105) : g27_L1 c d = g42_L1 c d := by
  funext i
  simp only [g27_L1, g42_L1, nums4, g44_eq, Option.bind_some]
  split
  · refine congrArg (Option.bind _) (funext fun e => congrArg (Option.bind _) (funext fun e' => ?_))
    generalize fb e.burnt_ e'.burnt_ = x0
    generalize fb e.steam_ e'.steam_ = x1
    generalize fb e.up_ e'.up_ = x2
    generalize fb e.lost_ e'.lost_ = x3
    generalize eqI e.smoky_ e'.smoky_ = x4
    cases x0 <;> cases x1 <;> cases x2 <;> cases x3 <;> cases x4 <;> rfl
  · rfl
theorem chim_same (c d : List T105) : g27 c d = g42 c d := by
  unfold g27 g42
  rw [chim_loop]
  rfl
theorem chim_tot {c d : List T105} (h : c.length ≤ 1048576) : ∃ x, g42 c d = some x := by
  unfold g42
  by_cases hl : c.length = d.length
  · rw [if_neg (by simp [eqI, hl])]
    obtain ⟨x, hx⟩ := scan_tot (body := g42_L1 c d) h (fun i hi => by
      rw [g42_L1, if_pos (by simp [ltI]; omega), idx_nat hi, Option.bind_some, idx_nat (show i < d.length by omega), Option.bind_some]
      simp only [g44_eq, Option.bind_some]
      generalize fb c[i].burnt_ d[i].burnt_ = x0
      generalize fb c[i].steam_ d[i].steam_ = x1
      generalize fb c[i].up_ d[i].up_ = x2
      generalize fb c[i].lost_ d[i].lost_ = x3
      generalize eqI c[i].smoky_ d[i].smoky_ = x4
      cases x0 <;> cases x1 <;> cases x2 <;> cases x3 <;> cases x4 <;> first | exact ⟨true, rfl⟩ | exact ⟨false, rfl⟩) (by rw [g42_L1, if_neg (by simp [ltI])])
    rw [hx]
    cases x <;> exact ⟨_, rfl⟩
  · rw [if_pos (by simp [eqI]; omega)]
    exact ⟨_, rfl⟩

theorem flat_tot {f g : T30} (h : SmallFlat f) : ∃ x, g41 f g = some x := by
  obtain ⟨x1, e1⟩ := nums_tot (a := f.heat_) (b := g.heat_) h.heat
  obtain ⟨x2, e2⟩ := nums_tot (a := f.store_) (b := g.store_) h.store
  unfold g41
  rw [e1, e2, Option.bind_some, Option.bind_some]
  have hw : ∀ b : Bool, ∃ w, (if b = true then some true else some (!x2)) = some w := fun b => by cases b <;> exact ⟨_, rfl⟩
  obtain ⟨w, ew⟩ := hw (!x1)
  rw [ew, Option.bind_some]
  cases hc : ((w || (!eqI (f.walls_.length : Int) (g.walls_.length : Int))) || (!eqI (f.panes_.length : Int) (g.panes_.length : Int)))
  rotate_left
  · exact ⟨_, rfl⟩
  · simp only [Bool.or_eq_false_iff] at hc
    obtain ⟨⟨_, hl1⟩, hl2⟩ := hc
    simp [eqI] at hl1 hl2
    rw [if_neg (by simp)]
    obtain ⟨x, hx⟩ := scan_tot (body := g41_L2 f g) h.walls (fun i hi => by
      rw [g41_L2, if_pos (by simp [ltI]; omega), idx_nat hi, Option.bind_some, idx_nat (show i < g.walls_.length by omega), Option.bind_some]
      simp only [g44_eq, Option.bind_some, ← g30_61, nums4]
      generalize ((!eqI f.walls_[i].a_ g.walls_[i].a_) || (!eqI f.walls_[i].b_ g.walls_[i].b_)) = x0
      generalize fb f.walls_[i].lead_ g.walls_[i].lead_ = x1
      generalize fb f.walls_[i].store_ g.walls_[i].store_ = x2
      generalize (fb f.walls_[i].heat_.a0_ g.walls_[i].heat_.a0_ && _) = x3
      cases x0 <;> cases x1 <;> cases x2 <;> cases x3 <;> first | exact ⟨true, rfl⟩ | exact ⟨false, rfl⟩) (by rw [g41_L2, if_neg (by simp [ltI])])
    rw [hx]
    cases x
    · exact ⟨_, rfl⟩
    · simp only [if_true, Option.bind_some]
      unfold g41_j1
      obtain ⟨y, hy⟩ := scan_tot (body := g41_L1 f g) h.panes (fun i hi => by
        rw [g41_L1, if_pos (by simp [ltI]; omega), idx_nat hi, Option.bind_some, idx_nat (show i < g.panes_.length by omega), Option.bind_some]
        simp only [g44_eq, Option.bind_some]
        generalize ((!eqI f.panes_[i].a_ g.panes_[i].a_) || (!eqI f.panes_[i].b_ g.panes_[i].b_)) = x0
        generalize fb f.panes_[i].lead_ g.panes_[i].lead_ = x1
        generalize fb f.panes_[i].sun_ g.panes_[i].sun_ = x2
        cases x0 <;> cases x1 <;> cases x2 <;> first | exact ⟨true, rfl⟩ | exact ⟨false, rfl⟩) (by rw [g41_L1, if_neg (by simp [ltI])])
      rw [hy]
      cases y <;> exact ⟨_, rfl⟩

theorem hearth_loop (h g : T38) : g10_L2 h g = g19_L3 h g := by
  funext i
  simp only [g10_L2, g19_L3, stove_same]
theorem hour_loop (h g : T38) : g10_L1 h g = g19_L1 h g := by
  funext i
  simp only [g10_L1, g19_L1, nums3, g44_eq, Option.bind_some]
  split
  · refine congrArg (Option.bind _) (funext fun e => congrArg (Option.bind _) (funext fun e' => ?_))
    generalize fb e.outside_ e'.outside_ = x0
    generalize fb e.sun_ e'.sun_ = x1
    generalize fb e.wind_ e'.wind_ = x2
    cases x0 <;> cases x1 <;> cases x2 <;> rfl
  · rfl

theorem house_same {h g : T38} (hs : SmallHouse h) : ∃ x, g10 h g = some x ∧ g8 h g = some x := by
  suffices H : ∃ x, g10 h g = some x ∧ g19 h g = some x by
    obtain ⟨x, h1, h2⟩ := H
    exact ⟨x, h1, by unfold g8; rw [h2]; rfl⟩
  obtain ⟨bF, eF⟩ := flat_tot (g := g.flat_) hs.flat
  obtain ⟨bC, eC⟩ := chim_tot (d := g.chimney_) hs.chimney
  have hS : h.sources_.length = g.sources_.length → ∃ b : Bool, loopO (g19_L2 h g) 0 = some (if b = true then .inl () else .inr false) := fun hl =>
    scan_tot hs.sources (fun i hi => ⟨!eqS h.sources_[i] (g.sources_[i]'(by omega)), by rw [g19_L2, if_pos (by simp [ltI]; omega), idx_nat hi, Option.bind_some, idx_nat (show i < g.sources_.length by omega), Option.bind_some]⟩) (by rw [g19_L2, if_neg (by simp [ltI])])
  have hH : h.hearths_.length = g.hearths_.length → ∃ b : Bool, loopO (g19_L3 h g) 0 = some (if b = true then .inl () else .inr false) := fun hl =>
    scan_tot hs.hearths (fun i hi => by
      obtain ⟨y, hy⟩ := stove_tot (r := (g.hearths_[i]'(by omega)).stove_) (hs.logs _ (List.getElem_mem hi))
      rw [g19_L3, if_pos (by simp [ltI]; omega), idx_nat hi, Option.bind_some, idx_nat (show i < g.hearths_.length by omega), Option.bind_some, hy]
      simp only [Option.bind_some]
      generalize (((!eqI h.hearths_[i].room_ g.hearths_[i].room_) || (!eqI h.hearths_[i].flue_ g.hearths_[i].flue_)) || (!eqI h.hearths_[i].brain_ g.hearths_[i].brain_)) = x0
      cases x0 <;> cases y <;> first | exact ⟨true, rfl⟩ | exact ⟨false, rfl⟩) (by rw [g19_L3, if_neg (by simp [ltI])])
  have hO : h.hours_.length = g.hours_.length → ∃ b : Bool, loopO (g19_L1 h g) 0 = some (if b = true then .inl () else .inr false) := fun hl =>
    scan_tot hs.hours (fun i hi => by
      rw [g19_L1, if_pos (by simp [ltI]; omega), idx_nat hi, Option.bind_some, idx_nat (show i < g.hours_.length by omega), Option.bind_some]
      simp only [g44_eq, Option.bind_some]
      generalize fb h.hours_[i].outside_ g.hours_[i].outside_ = x0
      generalize fb h.hours_[i].sun_ g.hours_[i].sun_ = x1
      generalize fb h.hours_[i].wind_ g.hours_[i].wind_ = x2
      cases x0 <;> cases x1 <;> cases x2 <;> first | exact ⟨true, rfl⟩ | exact ⟨false, rfl⟩) (by rw [g19_L1, if_neg (by simp [ltI])])
  unfold g10 g19
  rw [flat_same, eF, chim_same, eC, hearth_loop]
  unfold g10_j1 g19_j1 g19_j2
  rw [hour_loop]
  unfold g10_j2 g19_j3
  simp only [Option.bind_some, nums4, g44_eq]
  generalize fb h.sums_.burnt_ g.sums_.burnt_ = u0
  generalize fb h.sums_.steam_ g.sums_.steam_ = u1
  generalize fb h.sums_.up_ g.sums_.up_ = u2
  generalize fb h.sums_.lost_ g.sums_.lost_ = u3
  generalize eqI h.sums_.smoky_ g.sums_.smoky_ = u4
  generalize eqI h.tick_ g.tick_ = u5
  have e28 : g28 h.sources_ g.sources_ = if (!eqI (h.sources_.length : Int) (g.sources_.length : Int)) = true then some false else (loopO (g19_L2 h g) 0).bind fun w => match w with
      | .inl y => some true
      | .inr r => some r := rfl
  rw [e28]
  have l1 : ∀ {x y : Nat}, x = y → eqI (x : Int) (y : Int) = true := fun h => by rw [h]; simp [eqI]
  have l2 : ∀ {x y : Nat}, x ≠ y → eqI (x : Int) (y : Int) = false := fun h => by simp [eqI]; omega
  cases bF
  · exact ⟨false, rfl, rfl⟩
  cases bC
  · exact ⟨false, rfl, rfl⟩
  by_cases c2 : h.sources_.length = g.sources_.length
  rotate_left
  · rw [l2 c2]
    refine ⟨false, rfl, ?_⟩
    simp
  obtain ⟨bS, eS⟩ := hS c2
  rw [l1 c2, eS]
  by_cases c1 : h.hearths_.length = g.hearths_.length
  rotate_left
  · rw [l2 c1]
    cases bS <;> exact ⟨false, rfl, rfl⟩
  by_cases c3 : h.hours_.length = g.hours_.length
  rotate_left
  · rw [l2 c3, l1 c1]
    cases bS <;> exact ⟨false, rfl, rfl⟩
  obtain ⟨bH, eH⟩ := hH c1
  obtain ⟨bO, eO⟩ := hO c3
  rw [l1 c1, l1 c3, eH, eO]
  cases bS <;> cases bH <;> cases bO <;> cases u5 <;> cases u4 <;> cases u0 <;> cases u1 <;> cases u2 <;> cases u3 <;> exact ⟨_, rfl, rfl⟩
end Go.Proofs.Ytilkneilafpjiaa
