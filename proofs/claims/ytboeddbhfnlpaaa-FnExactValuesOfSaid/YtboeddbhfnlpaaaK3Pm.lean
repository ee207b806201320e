/- Plain laws: what the table of values tells. -/
import Derived.Test.YtboeddbhfnlpaaaK3Pv
namespace Go.Proofs.Ytboeddbhfnlpaaa
open Go.VL
set_option linter.unusedSimpArgs false
set_option linter.unusedVariables false

section
variable {s : T23}
def cellAt (T : List (List Int)) (k : Nat) (v : Int) : Int := (T.getD k []).getD v.toNat 0

theorem cellAt_eq {T : List (List Int)} {k : Nat} {v : Int} (hk : k < T.length) (hv : v.toNat < T[k].length) : T[k][v.toNat] = cellAt T k v := by
  simp [cellAt, List.getD, hk, hv]

structure CellOk (s : T23) (T : List (List Int)) (k : Nat) (i j c : Int) : Prop where
  best : c = -1 ∨ (0 ≤ c ∧ ∃ x v, 0 ≤ x ∧ x < j ∧ aft s k i x = some v ∧ cellAt T (k + 1) v ≠ -1 ∧ c = pr s k * x + cellAt T (k + 1) v)
  low : ∀ x v, 0 ≤ x → x < j → aft s k i x = some v → cellAt T (k + 1) v ≠ -1 → c ≠ -1 ∧ c ≤ pr s k * x + cellAt T (k + 1) v

theorem cell_ok (hv : Valid s) {k : Nat} {i B : Int} {T : List (List Int)} (hk : k < s.need_.length) (i0 : 0 ≤ i) (i1 : i ≤ s.store_) (hT : Rows s T (k + 1)) (hB : B ≤ 1000000)
    (hb : ∀ v, 0 ≤ v → v ≤ s.store_ → -1 ≤ cellAt T (k + 1) v ∧ cellAt T (k + 1) v ≤ B) (hB0 : 0 ≤ B) :
    ∃ c, loopO (g28_L3 s (k : Int) i T) (-1, 0) = some c ∧ CellOk s T k i (s.most_ + 1) c ∧ -1 ≤ c ∧ c ≤ B + 20000 := by
  have m0 := hv.most0
  have m1 := hv.most1
  have n2 := hv.n2
  have s0 := hv.store0
  obtain ⟨t1, t2⟩ := hT
  have hk1 : k + 1 < T.length := by omega
  have hrow := t2 (k + 1) hk1 (Nat.le_refl _)
  have hp : k < s.price_.length := by rw [hv.pl]; exact hk
  have hk' : aI .i64 (k : Int) 1 = ((k + 1 : Nat) : Int) := succI (by omega)
  obtain ⟨pr0, pr1⟩ := pr_bnd hv hk
  obtain ⟨r, h1, h2⟩ := loopO_rule (body := g28_L3 s (k : Int) i T) (fun z => s.most_.toNat + 1 - z.2.toNat)
    (fun z => ∃ q : Nat, z.2 = q ∧ (q : Int) ≤ s.most_ + 1 ∧ CellOk s T k i q z.1 ∧ -1 ≤ z.1 ∧ z.1 ≤ B + 20000) (fun c => CellOk s T k i (s.most_ + 1) c ∧ -1 ≤ c ∧ c ≤ B + 20000)
    (fun z ⟨q, e, hle, hc, hc0, hc1⟩ => by
      obtain ⟨best, lg⟩ := z
      simp only at e hc hc0 hc1
      subst e
      rw [g28_L3]
      by_cases hlt : (q : Int) ≤ s.most_
      · have hi' : aI .i64 (q : Int) 1 = ((q + 1 : Nat) : Int) := succI (by omega)
        rw [if_pos (by simp [leI]; omega), g45_eq hv hk i0 i1 (by omega) hlt, Option.bind_some, hi']
        left
        have hq1 : ((q + 1 : Nat) : Int) = (q : Int) + 1 := by omega
        cases ha : aft s k i q with
        | none =>
          refine ⟨(best, ((q + 1 : Nat) : Int)), by simp [ltI], ⟨q + 1, rfl, by omega, ⟨?_, ?_⟩, hc0, hc1⟩, by simp only; omega⟩
          · rcases hc.best with h | ⟨h0, x, v, hx0, hx1, h3⟩
            · exact .inl h
            · exact .inr ⟨h0, x, v, hx0, by omega, h3⟩
          · intro x v hx0 hx1 hxa
            by_cases hxq : x = q
            · rw [hxq, ha] at hxa; cases hxa
            · exact hc.low x v hx0 (by omega) hxa
        | some v =>
          obtain ⟨v1, v2⟩ := aft_range hv ha
          have hvl : v.toNat < T[k + 1].length := by rw [hrow]; omega
          have hv0 : ltI v 0 = false := by simp [ltI]; omega
          obtain ⟨b0, b1⟩ := hb v v1 v2
          have hpr : s.price_[k] = pr s k := pr_get hp
          have mb : 0 ≤ pr s k * (q : Int) ∧ pr s k * (q : Int) ≤ 1000 * 20 := mul_bnd pr0 pr1 (by omega) (by omega)
          simp only [hv0, Bool.false_eq_true, if_false, hk', idx_nat hk1, Option.bind_some, idx_of v1 hvl, idx_nat hp, cellAt_eq hk1 hvl, hpr]
          rw [mI64 (by omega) (by omega), aI64 (by omega) (by omega)]
          have skip : cellAt T (k + 1) v = -1 → CellOk s T k i ((q : Int) + 1) best := fun hm => by
            refine ⟨?_, ?_⟩
            · rcases hc.best with h | ⟨h0, x, v, hx0, hx1, h3⟩
              · exact .inl h
              · exact .inr ⟨h0, x, v, hx0, by omega, h3⟩
            · intro x v' hx0 hx1 hxa hne
              by_cases hxq : x = q
              · rw [hxq, ha] at hxa; cases hxa; exact absurd hm hne
              · exact hc.low x v' hx0 (by omega) hxa hne
          by_cases hm : cellAt T (k + 1) v = -1
          · rw [if_pos (by simp [eqI, hm])]
            exact ⟨_, rfl, ⟨q + 1, rfl, by omega, by rw [hq1]; exact skip hm, hc0, hc1⟩, by simp only; omega⟩
          · rw [if_neg (by simp [eqI, hm])]
            have hm0 : 0 ≤ cellAt T (k + 1) v := by omega
            by_cases hcmp : (eqI best (-1) || ltI (pr s k * (q : Int) + cellAt T (k + 1) v) best) = true
            · rw [if_pos hcmp]
              refine ⟨_, rfl, ⟨q + 1, rfl, by omega, ⟨.inr ⟨by simp only; omega, q, v, by omega, by omega, ha, hm, rfl⟩, ?_⟩, by simp only; omega, by simp only; omega⟩, by simp only; omega⟩
              intro x v' hx0 hx1 hxa hne
              by_cases hxq : x = q
              · rw [hxq, ha] at hxa
                cases hxa
                rw [hxq]
                exact ⟨by simp only; omega, Int.le_refl _⟩
              · obtain ⟨l1, l2⟩ := hc.low x v' hx0 (by omega) hxa hne
                have hbm : eqI best (-1) = false := by simp [eqI]; exact l1
                rw [hbm] at hcmp
                simp [ltI] at hcmp
                exact ⟨by simp only; omega, by simp only; omega⟩
            · rw [if_neg hcmp]
              have hcmp' : best ≠ -1 ∧ best ≤ pr s k * (q : Int) + cellAt T (k + 1) v := by
                simp only [Bool.not_eq_true, Bool.or_eq_false_iff] at hcmp
                obtain ⟨c1, c2⟩ := hcmp
                simp [eqI] at c1
                simp [ltI] at c2
                exact ⟨c1, c2⟩
              refine ⟨_, rfl, ⟨q + 1, rfl, by omega, ⟨?_, ?_⟩, hc0, hc1⟩, by simp only; omega⟩
              · rcases hc.best with h | ⟨h0, x, v, hx0, hx1, h3⟩
                · exact .inl h
                · exact .inr ⟨h0, x, v, hx0, by omega, h3⟩
              · intro x v' hx0 hx1 hxa hne
                by_cases hxq : x = q
                · rw [hxq, ha] at hxa
                  cases hxa
                  rw [hxq]
                  exact hcmp'
                · exact hc.low x v' hx0 (by omega) hxa hne
      · right
        have : (q : Int) = s.most_ + 1 := by omega
        rw [if_neg (by simp [leI]; omega)]
        exact ⟨best, rfl, by rw [← this]; exact hc, hc0, hc1⟩) (s := (-1, 0)) ⟨0, rfl, by omega, ⟨.inl rfl, fun x v h0 h1 => by omega⟩, by simp, by simp only; omega⟩
  exact ⟨r, h1, h2⟩

theorem row_ok (hv : Valid s) {k : Nat} {B : Int} {T : List (List Int)} (hk : k < s.need_.length) (hT : Rows s T (k + 1)) (hB : B ≤ 1000000)
    (hb : ∀ v, 0 ≤ v → v ≤ s.store_ → -1 ≤ cellAt T (k + 1) v ∧ cellAt T (k + 1) v ≤ B) (hB0 : 0 ≤ B) :
    ∃ row, loopO (g28_L2 s (k : Int) T) (0, []) = some row ∧ row.length = s.store_.toNat + 1 ∧ ∀ q : Nat, (q : Int) ≤ s.store_ → CellOk s T k q (s.most_ + 1) (row.getD q 0) ∧ -1 ≤ row.getD q 0 ∧ row.getD q 0 ≤ B + 20000 := by
  have s0 := hv.store0
  have s1 := hv.store1
  obtain ⟨r, h1, h2⟩ := loopO_rule (body := g28_L2 s (k : Int) T) (fun z => s.store_.toNat + 1 - z.1.toNat)
    (fun z => ∃ q : Nat, z.1 = q ∧ (q : Int) ≤ s.store_ + 1 ∧ z.2.length = q ∧ ∀ x : Nat, x < q → CellOk s T k x (s.most_ + 1) (z.2.getD x 0) ∧ -1 ≤ z.2.getD x 0 ∧ z.2.getD x 0 ≤ B + 20000)
    (fun row => row.length = s.store_.toNat + 1 ∧ ∀ q : Nat, (q : Int) ≤ s.store_ → CellOk s T k q (s.most_ + 1) (row.getD q 0) ∧ -1 ≤ row.getD q 0 ∧ row.getD q 0 ≤ B + 20000)
    (fun z ⟨q, e, hle, hl, hc⟩ => by
      obtain ⟨i, row⟩ := z
      simp only at e hl hc
      subst e
      rw [g28_L2]
      by_cases hlt : (q : Int) ≤ s.store_
      · obtain ⟨c, e1, c1, c2, c3⟩ := cell_ok hv hk (i := (q : Int)) (by omega) hlt hT hB hb hB0
        rw [if_pos (by simp [leI]; omega), e1, Option.bind_some]
        unfold g28_j5 g28_j4
        rw [appK_of (by simp; omega) (by simp; omega), Option.bind_some, succI (by omega)]
        left
        refine ⟨_, rfl, ⟨q + 1, rfl, by omega, by simp [hl], fun x hx => ?_⟩, by simp only; omega⟩
        by_cases hxq : x = q
        · subst hxq
          have : (row ++ [c]).getD x 0 = c := by simp [List.getD, ← hl]
          simp only [this]
          exact ⟨c1, c2, c3⟩
        · have : (row ++ [c]).getD x 0 = row.getD x 0 := by
            simp only [List.getD]
            rw [List.getElem?_append_left (by omega)]
          simp only [this]
          exact hc x (by omega)
      · right
        rw [if_neg (by simp [leI]; omega)]
        exact ⟨row, rfl, by omega, fun x hx => hc x (by omega)⟩) (s := (0, [])) ⟨0, rfl, by omega, rfl, fun x hx => by omega⟩
  exact ⟨r, h1, h2⟩

/-- From slot k on the table holds the least costs. -/
structure TabOk (s : T23) (T : List (List Int)) (k : Nat) : Prop where
  rows : Rows s T k
  bnd : ∀ j : Nat, k ≤ j → j ≤ s.need_.length → ∀ v, 0 ≤ v → v ≤ s.store_ → -1 ≤ cellAt T j v ∧ cellAt T j v ≤ 20000 * ((s.need_.length : Int) - j)
  last : ∀ v, 0 ≤ v → v ≤ s.store_ → cellAt T s.need_.length v = 0
  cell : ∀ j : Nat, k ≤ j → j < s.need_.length → ∀ v, 0 ≤ v → v ≤ s.store_ → CellOk s T j v (s.most_ + 1) (cellAt T j v)

theorem cellAt_set {T : List (List Int)} {k j : Nat} {row : List Int} (h : k ≠ j) (v : Int) : cellAt (T.set k row) j v = cellAt T j v := by
  simp [cellAt, List.getD, List.getElem?_set, h]
theorem cellAt_same {T : List (List Int)} {k : Nat} {row : List Int} (h : k < T.length) (v : Int) : cellAt (T.set k row) k v = row.getD v.toNat 0 := by
  simp [cellAt, List.getD, List.getElem?_set, h]

theorem tab_ok (hv : Valid s) : ∃ T, g31 s = some T ∧ TabOk s T 0 := by
  obtain ⟨T0, e48, e54, hR0⟩ := values_eq hv
  suffices h : ∃ T, g28 s = some T ∧ TabOk s T 0 by
    obtain ⟨T, h1, h2⟩ := h
    rw [e54] at h1
    cases h1
    exact ⟨T0, e48, h2⟩
  have s0 := hv.store0
  have s1 := hv.store1
  have n2 := hv.n2
  have hst : aI .i64 s.store_ 1 = ((s.store_.toNat + 1 : Nat) : Int) := by rw [aI64 (by omega) (by omega)]; omega
  have hn : aI .i64 (s.need_.length : Int) 1 = ((s.need_.length + 1 : Nat) : Int) := succI (by omega)
  have hmk : mk 8 (aI .i64 s.store_ 1) = some () := by rw [hst]; exact mk_of (by omega) (by simp; omega) (by simp; omega)
  have hmk2 : mk 24 (aI .i64 (s.need_.length : Int) 1) = some () := by rw [hn]; exact mk_of (by omega) (by simp; omega) (by simp; omega)
  generalize hT0 : (List.replicate (aI .i64 (s.need_.length : Int) 1).toNat ([] : List Int)) = T0
  have hl0 : T0.length = s.need_.length + 1 := by rw [← hT0, hn]; simp
  obtain ⟨r, h1, h2⟩ := loopO_rule (body := g28_L1 s) (fun z => (z.1 + 1).toNat)
    (fun z => ∃ q : Nat, z.1 = (q : Int) - 1 ∧ q ≤ s.need_.length ∧ TabOk s z.2 q) (fun r => TabOk s r 0)
    (fun z ⟨q, h1, h2, h3⟩ => by
      obtain ⟨k, T⟩ := z
      simp only at h1 h3
      subst h1
      rw [g28_L1]
      cases q with
      | zero =>
        right
        exact ⟨T, by rw [if_neg (by simp [leI])], h3⟩
      | succ q =>
        have e : ((q + 1 : Nat) : Int) - 1 = (q : Int) := by omega
        rw [e]
        have hqT : q < T.length := by rw [h3.rows.1]; omega
        obtain ⟨row, r1, r2, r3⟩ := row_ok hv (k := q) (B := 20000 * ((s.need_.length : Int) - ((q + 1 : Nat) : Int))) (by omega) h3.rows (by omega) (h3.bnd (q + 1) (Nat.le_refl _) (by omega)) (by omega)
        left
        refine ⟨((q : Int) - 1, T.set q row), ?_, ⟨q, rfl, by omega, ⟨⟨by simpa using h3.rows.1, fun j hj hle => ?_⟩, ?_, ?_, ?_⟩⟩, by simp only; omega⟩
        · rw [if_pos (by simp [leI]), r1, Option.bind_some]
          unfold g28_j3 g28_j2
          rw [idx_nat hqT, Option.bind_some, sI64 (by omega) (by omega), Int.toNat_natCast]
        · simp only
          rw [List.getElem_set]
          split
          · exact r2
          · exact h3.rows.2 j (by simpa using hj) (by omega)
        · intro j hj1 hj2 v v0 v1
          by_cases hjq : q = j
          · subst hjq
            have := r3 v.toNat (by omega)
            simp only [cellAt_same hqT]
            omega
          · simp only [cellAt_set hjq]
            exact h3.bnd j (by omega) hj2 v v0 v1
        · intro v v0 v1
          simp only [cellAt_set (show q ≠ s.need_.length by omega)]
          exact h3.last v v0 v1
        · intro j hj1 hj2 v v0 v1
          by_cases hjq : q = j
          · subst hjq
            have := (r3 v.toNat (by omega)).1
            rw [Int.toNat_of_nonneg v0] at this
            simp only [cellAt_same hqT]
            refine ⟨?_, ?_⟩
            · simp only [cellAt_set (show q ≠ q + 1 by omega)]
              exact this.best
            · simp only [cellAt_set (show q ≠ q + 1 by omega)]
              exact this.low
          · have := h3.cell j (by omega) hj2 v v0 v1
            refine ⟨?_, ?_⟩
            · simp only [cellAt_set hjq, cellAt_set (show q ≠ j + 1 by omega)]
              exact this.best
            · simp only [cellAt_set hjq, cellAt_set (show q ≠ j + 1 by omega)]
              exact this.low)
    (s := (sI .i64 (s.need_.length : Int) 1, T0.set ((s.need_.length : Int).toNat) (List.replicate (aI .i64 s.store_ 1).toNat 0))) ⟨s.need_.length, sI64 (by omega) (by omega), Nat.le_refl _, by
      have hz : ∀ v, 0 ≤ v → v ≤ s.store_ → cellAt (T0.set ((s.need_.length : Int).toNat) (List.replicate (aI .i64 s.store_ 1).toNat 0)) s.need_.length v = 0 := fun v v0 v1 => by
        rw [Int.toNat_natCast, cellAt_same (by omega)]
        simp only [List.getD, List.getElem?_replicate]
        split <;> rfl
      refine ⟨⟨by simpa using hl0, fun j hj hle => ?_⟩, fun j h1 h2 v v0 v1 => ?_, hz, fun j h1 h2 => by omega⟩
      · have : j = s.need_.length := by simp at hj; omega
        subst this
        simp only [Int.toNat_natCast]
        rw [List.getElem_set_self, hst, Int.toNat_natCast, List.length_replicate]
      · have : j = s.need_.length := by omega
        subst this
        simp only at *
        rw [hz v v0 v1]
        omega⟩
  refine ⟨r, ?_, h2⟩
  unfold g28 g28_j1
  rw [hmk2, Option.bind_some, hmk, Option.bind_some, hT0, idx_nat (by omega), Option.bind_some, h1]
  rfl
end
end Go.Proofs.Ytboeddbhfnlpaaa

