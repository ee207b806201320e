/- Plain laws: the table of least costs, and the cheapest plan. -/
import Derived.Test.YtboeddbhfnlpaaaK3a
import Derived.Test.YtboeddbhfnlpaaaK3a
import Derived.Test.YtboeddbhfnlpaaaK3a
import Derived.Test.YtboeddbhfnlpaaaK3Pb
import Derived.Test.YtboeddbhfnlpaaaK3a
import Derived.Test.YtboeddbhfnlpaaaK3a

namespace Go.Proofs.Ytboeddbhfnlpaaa
open Go.VL
set_option linter.unusedSimpArgs false
set_option linter.unusedVariables false

section
variable {s : T23}
/-- Of a table, the rows from i on are whole. -/
def Rows (s : T23) (T : List (List Int)) (i : Nat) : Prop := T.length = s.need_.length + 1 ∧ ∀ j (h : j < T.length), i ≤ j → T[j].length = s.store_.toNat + 1

theorem cell_rel (hv : Valid s) {k x : Nat} {T : List (List Int)} (hk : k < s.need_.length) (hx : x ≤ s.store_.toNat) (hT : Rows s T (k + 1)) :
    ∃ b, loopO (g31_L3 s (k : Int) (x : Int) T) (-1, 0) = some b ∧ loopO (g28_L3 s (k : Int) (x : Int) T) (-1, 0) = some b := by
  have m0 := hv.most0
  have m1 := hv.most1
  have n2 := hv.n2
  have s0 := hv.store0
  obtain ⟨t1, t2⟩ := hT
  have hk1 : k + 1 < T.length := by omega
  have hrow := t2 (k + 1) hk1 (Nat.le_refl _)
  have hp : k < s.price_.length := by rw [hv.pl]; exact hk
  have hk' : aI .i64 (k : Int) 1 = ((k + 1 : Nat) : Int) := succI (by omega)
  obtain ⟨r, r', h1, h2, h3⟩ := loopO_rel (b1 := g31_L3 s (k : Int) (x : Int) T) (b2 := g28_L3 s (k : Int) (x : Int) T) (fun z => s.most_.toNat + 1 - z.2.toNat)
    (fun z y => z = y ∧ ∃ i : Nat, z.2 = i ∧ i ≤ s.most_.toNat + 1) (fun r r' => r = r')
    (fun z y ⟨hzy, i, hi, hle⟩ => by
      subst hzy
      obtain ⟨best, lg⟩ := z
      simp only at hi
      subst hi
      rw [g31_L3, g28_L3, aI64 (by omega) (by omega)]
      by_cases hlt : i ≤ s.most_.toNat
      · have hi' : aI .i64 (i : Int) 1 = ((i + 1 : Nat) : Int) := succI (by omega)
        rw [if_pos (by simp [ltI]; omega), if_pos (by simp [leI]; omega), g45_eq hv hk (by omega) (by omega) (by omega) (by omega), g37_eq hv hk (by omega) (by omega) (by omega) (by omega), Option.bind_some, Option.bind_some, hi']
        left
        cases ha : aft s k x i with
        | none =>
          refine ⟨(best, ((i + 1 : Nat) : Int)), (best, ((i + 1 : Nat) : Int)), ?_, ?_, ⟨rfl, i + 1, rfl, by omega⟩, by simp only; omega⟩
          · simp
          · simp [ltI]
        | some v =>
          obtain ⟨v1, v2⟩ := aft_range hv ha
          have hvl : v.toNat < T[k + 1].length := by rw [hrow]; omega
          have hv0 : ltI v 0 = false := by simp [ltI]; omega
          simp only [Bool.not_true, Bool.false_eq_true, if_false, hk', idx_nat hk1, Option.bind_some, idx_of v1 hvl, idx_nat hp, hv0]
          cases hq : eqI T[k + 1][v.toNat] (-1)
          · simp only [Bool.false_eq_true, if_false]
            by_cases hc : (eqI best (-1) || ltI (aI .i64 (mI .i64 s.price_[k] (i : Int)) T[k + 1][v.toNat]) best) = true
            · exact ⟨(aI .i64 (mI .i64 s.price_[k] (i : Int)) T[k + 1][v.toNat], ((i + 1 : Nat) : Int)), (aI .i64 (mI .i64 s.price_[k] (i : Int)) T[k + 1][v.toNat], ((i + 1 : Nat) : Int)), by rw [if_pos hc], by rw [if_pos hc], ⟨rfl, i + 1, rfl, by omega⟩, by simp only; omega⟩
            · exact ⟨(best, ((i + 1 : Nat) : Int)), (best, ((i + 1 : Nat) : Int)), by rw [if_neg hc], by rw [if_neg hc], ⟨rfl, i + 1, rfl, by omega⟩, by simp only; omega⟩
          · exact ⟨(best, ((i + 1 : Nat) : Int)), (best, ((i + 1 : Nat) : Int)), by simp, by simp, ⟨rfl, i + 1, rfl, by omega⟩, by simp only; omega⟩
      · right
        refine ⟨best, best, ?_, ?_, rfl⟩
        · rw [if_neg (by simp [ltI]; omega)]
        · rw [if_neg (by simp [leI]; omega)]) (s := (-1, 0)) (s' := (-1, 0)) ⟨rfl, 0, rfl, by omega⟩
  subst h3
  exact ⟨r, h1, h2⟩

theorem set_fill {b : List Int} {m : Nat} {v : Int} : (b ++ List.replicate (m + 1) 0).set b.length v = (b ++ [v]) ++ List.replicate m 0 := by
  rw [List.set_append_right _ _ (Nat.le_refl _), Nat.sub_self, List.replicate_succ]
  simp

theorem row_rel (hv : Valid s) {k : Nat} {T : List (List Int)} (hk : k < s.need_.length) (hT : Rows s T (k + 1)) :
    ∃ row, row.length = s.store_.toNat + 1 ∧ loopO (g31_L2 s (k : Int) T) (0, List.replicate (aI .i64 s.store_ 1).toNat 0) = some (T.set k row) ∧ loopO (g28_L2 s (k : Int) T) (0, []) = some row := by
  have s0 := hv.store0
  have s1 := hv.store1
  have hst : aI .i64 s.store_ 1 = ((s.store_.toNat + 1 : Nat) : Int) := by rw [aI64 (by omega) (by omega)]; omega
  have hlen : (List.replicate (aI .i64 s.store_ 1).toNat (0 : Int)).length = s.store_.toNat + 1 := by rw [hst, List.length_replicate, Int.toNat_natCast]
  obtain ⟨r, r', h1, h2, h3, h4⟩ := loopO_rel (b1 := g31_L2 s (k : Int) T) (b2 := g28_L2 s (k : Int) T) (fun z => s.store_.toNat + 1 - z.1.toNat)
    (fun z y => ∃ q : Nat, z.1 = q ∧ y.1 = q ∧ q ≤ s.store_.toNat + 1 ∧ y.2.length = q ∧ z.2 = y.2 ++ List.replicate (s.store_.toNat + 1 - q) 0) (fun r r' => r = T.set k r' ∧ r'.length = s.store_.toNat + 1)
    (fun z y ⟨q, h1, h2, h3, h4, h5⟩ => by
      obtain ⟨x, a⟩ := z
      obtain ⟨x', b⟩ := y
      simp only at h1 h2 h4 h5
      subst h1 h2 h5
      rw [g31_L2, g28_L2, List.length_replicate, hst, Int.toNat_natCast]
      by_cases hlt : q ≤ s.store_.toNat
      · obtain ⟨best, e1, e2⟩ := cell_rel hv hk hlt hT
        rw [if_pos (by simp [ltI]; omega), if_pos (by simp [leI]; omega), e1, e2, Option.bind_some, Option.bind_some]
        left
        refine ⟨(((q + 1 : Nat) : Int), (b ++ [best]) ++ List.replicate (s.store_.toNat + 1 - (q + 1)) 0), (((q + 1 : Nat) : Int), b ++ [best]), ?_, ?_, ⟨q + 1, rfl, rfl, by omega, by simp [h4], rfl⟩, by simp only; omega⟩
        · unfold g31_j4 g31_j3
          rw [idx_nat (by simp; omega), Option.bind_some, succI (by omega), Int.toNat_natCast, show s.store_.toNat + 1 - q = (s.store_.toNat + 1 - (q + 1)) + 1 by omega]
          conv => lhs; rw [← h4, set_fill]
          rw [h4]
        · unfold g28_j5 g28_j4
          rw [appK_of (by simp; omega) (by simp; omega), Option.bind_some, succI (by omega)]
      · have hq : q = s.store_.toNat + 1 := by omega
        right
        refine ⟨T.set k b, b, ?_, ?_, rfl, by omega⟩
        · rw [if_neg (by simp [ltI]; omega), hq]; simp
        · rw [if_neg (by simp [leI]; omega)]) (s := (0, List.replicate (aI .i64 s.store_ 1).toNat 0)) (s' := (0, [])) ⟨0, rfl, rfl, by omega, rfl, by rw [hst, Int.toNat_natCast]; simp⟩
  subst h3
  exact ⟨r', h4, h1, h2⟩

theorem values_eq (hv : Valid s) : ∃ T, g31 s = some T ∧ g28 s = some T ∧ Rows s T 0 := by
  have s0 := hv.store0
  have s1 := hv.store1
  have n2 := hv.n2
  have hst : aI .i64 s.store_ 1 = ((s.store_.toNat + 1 : Nat) : Int) := by rw [aI64 (by omega) (by omega)]; omega
  have hn : aI .i64 (s.need_.length : Int) 1 = ((s.need_.length + 1 : Nat) : Int) := succI (by omega)
  have hmk : mk 8 (aI .i64 s.store_ 1) = some () := by rw [hst]; exact mk_of (by omega) (by simp; omega) (by simp; omega)
  have hmk2 : mk 24 (aI .i64 (s.need_.length : Int) 1) = some () := by rw [hn]; exact mk_of (by omega) (by simp; omega) (by simp; omega)
  generalize hT0 : (List.replicate (aI .i64 (s.need_.length : Int) 1).toNat ([] : List Int)) = T0
  have hl0 : T0.length = s.need_.length + 1 := by rw [← hT0, hn]; simp
  obtain ⟨r, r', h1, h2, h3, h4⟩ := loopO_rel (b1 := g31_L1 s) (b2 := g28_L1 s) (fun z => (z.1 + 1).toNat)
    (fun z y => z = y ∧ ∃ q : Nat, z.1 = (q : Int) - 1 ∧ q ≤ s.need_.length ∧ Rows s z.2 q) (fun r r' => r = r' ∧ Rows s r 0)
    (fun z y ⟨hzy, q, h1, h2, h3⟩ => by
      subst hzy
      obtain ⟨k, T⟩ := z
      simp only at h1 h3
      subst h1
      rw [g31_L1, g28_L1]
      cases q with
      | zero =>
        right
        refine ⟨T, T, ?_, ?_, rfl, h3⟩
        · rw [if_neg (by simp [leI])]
        · rw [if_neg (by simp [leI])]
      | succ q =>
        have e : ((q + 1 : Nat) : Int) - 1 = (q : Int) := by omega
        rw [e]
        obtain ⟨row, r1, r2, r3⟩ := row_rel hv (k := q) (by omega) h3
        have hqT : q < T.length := by rw [h3.1]; omega
        left
        refine ⟨((q : Int) - 1, T.set q row), ((q : Int) - 1, T.set q row), ?_, ?_, ⟨rfl, q, rfl, by omega, by simpa using h3.1, fun j hj hle => ?_⟩, by simp only; omega⟩
        · rw [if_pos (by simp [leI]), hmk, Option.bind_some, idx_nat hqT, Option.bind_some, r2, Option.bind_some]
          unfold g31_j2
          rw [sI64 (by omega) (by omega)]
        · rw [if_pos (by simp [leI]), r3, Option.bind_some]
          unfold g28_j3 g28_j2
          rw [idx_nat hqT, Option.bind_some, sI64 (by omega) (by omega), Int.toNat_natCast]
        · simp only
          rw [List.getElem_set]
          split
          · exact r1
          · exact h3.2 j (by simpa using hj) (by omega)) (s := (sI .i64 (s.need_.length : Int) 1, T0.set ((s.need_.length : Int).toNat) (List.replicate (aI .i64 s.store_ 1).toNat 0))) (s' := (sI .i64 (s.need_.length : Int) 1, T0.set ((s.need_.length : Int).toNat) (List.replicate (aI .i64 s.store_ 1).toNat 0)))
    ⟨rfl, s.need_.length, sI64 (by omega) (by omega), Nat.le_refl _, by simpa using hl0, fun j hj hle => by
      have : j = s.need_.length := by simp at hj; omega
      subst this
      simp only [Int.toNat_natCast]
      rw [List.getElem_set_self, hst, Int.toNat_natCast, List.length_replicate]⟩
  subst h3
  refine ⟨r, ?_, ?_, h4⟩
  · unfold g31 g31_j1
    rw [hmk2, Option.bind_some, hmk, Option.bind_some, hT0, idx_nat (by omega), Option.bind_some, h1]
    rfl
  · unfold g28 g28_j1
    rw [hmk2, Option.bind_some, hmk, Option.bind_some, hT0, idx_nat (by omega), Option.bind_some, h2]
    rfl

/-- The least cost from the first store on. -/
theorem first_of (hv : Valid s) {T : List (List Int)} (hT : Rows s T 0) : ∃ (h0 : 0 < T.length) (h1 : s.first_.toNat < T[0].length), idx T 0 = some T[0] ∧ idx T[0] s.first_ = some T[0][s.first_.toNat] := by
  have h0 : 0 < T.length := by rw [hT.1]; omega
  have h1 : s.first_.toNat < T[0].length := by rw [hT.2 0 h0 (Nat.le_refl _)]; have := hv.first1; have := hv.first0; omega
  exact ⟨h0, h1, idx_nat h0, idx_of hv.first0 h1⟩

end
end Go.Proofs.Ytboeddbhfnlpaaa

