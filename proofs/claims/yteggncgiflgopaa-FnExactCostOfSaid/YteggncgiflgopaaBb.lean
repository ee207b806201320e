/- The program's ValidSeason. -/
import Derived.Test.YteggncgiflgopaaBa
import Derived.KernelRfl
namespace Go.Proofs.Yteggncgiflgopaa
open Go.RowKit Go.VL
set_option linter.unusedSimpArgs false
set_option linter.unusedVariables false

/-- The numbers beside the lists. -/
def validN (most yield store first loss : Int) : Bool := (decide (0 ≤ most) && decide (most ≤ 20)) && (decide (1 ≤ yield) && decide (yield ≤ 40)) && (decide (0 ≤ store) && decide (store ≤ 60)) && (decide (0 ≤ first) && decide (first ≤ store)) && (decide (0 ≤ loss) && decide (loss ≤ 100))
theorem valid_eq (s : Sea) (h1 : 1 ≤ s.need.length) (h2 : s.need.length ≤ 24) (h3 : s.price.length = s.need.length) : valid s = ((bnd s.need 200 && bnd s.price 1000) && validN s.most s.yield s.store s.first s.loss) := by
  have a : (1 : Int) ≤ (s.need.length : Int) := by omega
  have b : (s.need.length : Int) ≤ 24 := by omega
  simp only [valid, validN, a, b, h3, decide_true, Bool.true_and, beq_self_eq_true, Bool.and_assoc]
set_option maxRecDepth 100000 in
set_option maxHeartbeats 4000000 in
/- loop.example/g01229/impl.ValidSeason -/
theorem ok18 : Tells Try.prog 18 validF := by
  refine ⟨by kernel_rfl, fun args r h => ?_⟩
  unfold validF at h
  split at h
  rotate_left
  · cases h
  rename_i a b m y st f l
  split at h
  rotate_left
  · cases h
  rename_i hE
  cases h
  obtain ⟨ha, hb, la, lb⟩ := hE
  obtain ⟨need, rfl⟩ := ha.get
  obtain ⟨price, rfl⟩ := hb.get
  simp only [ints_length, dec_ints] at *
  refine VCalls.of Try.func18 rfl rfl rfl ?_
  simp only [List.reduceReplicate, List.cons_append, List.nil_append, List.length_cons, List.length_nil, Nat.reduceAdd, Nat.reduceSub]
  repeat' first
    | refine VW.seq ?_
    | (refine VW.evalK (C := []) trivial (by kernel_rfl) ?_; simp [la, lb])
    | (refine VW.evalDK (C := []) trivial mixed (by kernel_rfl) ?_; simp [la, lb])
    | (refine VW.ret (VRet.fin ?_); simp [la, lb])
    | refine VW.condT rfl ?_
    | refine VW.condF rfl ?_
    | (refine VW.condB rfl (fun h => ?_) (fun h => ?_))
    | (refine VW.skip ?_; simp only [vthen, vblock])
    | refine VW.block ?_
    | (refine VW.exit ?_; simp only [vthen, vblock, if_true])
  · simp only [Bool.or_eq_true, decide_eq_true_eq, bne_iff_ne, ne_eq] at h
    cases hv : valid ⟨need, price, m, y, st, f, l⟩
    · rfl
    · exfalso
      simp only [valid, Bool.and_eq_true, decide_eq_true_eq, beq_iff_eq] at hv
      omega
  simp only [Bool.or_eq_false_iff, decide_eq_false_iff_not, bne_eq_false_iff_eq] at h
  obtain ⟨⟨h1, h2⟩, h3⟩ := h
  have hlp : price.length = need.length := by omega
  have hv := valid_eq ⟨need, price, m, y, st, f, l⟩ (by simp only; omega) (by simp only; omega) hlp
  simp only at hv
  rw [hv]
  refine VW.loop (fun n s => ∃ i, i ≤ need.length ∧ (bnd need 200 && bnd price 1000) = (bnd (need.drop i) 200 && bnd (price.drop i) 1000) ∧ n = need.length - i ∧ s = { t := [.agg [.sl 1 (ints need), .sl 1 (ints price), .i .i64 m, .i .i64 y, .i .i64 st, .i .i64 f, .i .i64 l], .ptr 0 0 0, .b false, .i .i64 (need.length : Int), .any, .any, .any, .any, .any, .any, .any, .any, .any, .any, .any, .any, .any, .any, .any, .any, .any, .i .i64 (need.length : Int), .i .i64 ((i : Nat) : Int), .any, .any, .any, .any, .any, .any, .any, .any, .any, .any, .any, .any, .any, .any, .any, .any, .any, .any, .any, .any, .any, .any, .any, .any, .any, .any, .any, .any, .any, .any, .any, .any, .any, .any, .any, .any, .any, .any, .any, .any, .any, .any, .any, .any, .any, .any, .any, .any, .any, .any, .any, .any, .any, .any, .any, .any, .any, .any, .any, .any, .any, .any, .any, .any, .any, .any, .any, .any, .any, .any, .any, .any, .any, .any, .any, .any, .any, .any, .any, .any, .any, .any, .any], m := [some (7, [[.sl 1 (ints need), .sl 1 (ints price), .i .i64 m, .i .i64 y, .i .i64 st, .i .i64 f, .i .i64 l]])] }) (n0 := need.length) (s0 := { t := [.agg [.sl 1 (ints need), .sl 1 (ints price), .i .i64 m, .i .i64 y, .i .i64 st, .i .i64 f, .i .i64 l], .ptr 0 0 0, .b false, .i .i64 (need.length : Int), .any, .any, .any, .any, .any, .any, .any, .any, .any, .any, .any, .any, .any, .any, .any, .any, .any, .i .i64 (need.length : Int), .i .i64 ((0 : Nat) : Int), .any, .any, .any, .any, .any, .any, .any, .any, .any, .any, .any, .any, .any, .any, .any, .any, .any, .any, .any, .any, .any, .any, .any, .any, .any, .any, .any, .any, .any, .any, .any, .any, .any, .any, .any, .any, .any, .any, .any, .any, .any, .any, .any, .any, .any, .any, .any, .any, .any, .any, .any, .any, .any, .any, .any, .any, .any, .any, .any, .any, .any, .any, .any, .any, .any, .any, .any, .any, .any, .any, .any, .any, .any, .any, .any, .any, .any, .any, .any, .any, .any, .any, .any], m := [some (7, [[.sl 1 (ints need), .sl 1 (ints price), .i .i64 m, .i .i64 y, .i .i64 st, .i .i64 f, .i .i64 l]])] }) (Ent.to 1 ?_ ?_ ?_ ?_ ?_) ⟨0, by omega, by simp, by omega, rfl⟩ ?_
  · simp [fgt]
  · simp
  · simp
  · simp [bndT, bndV]
  · simp [bndM, ints_bnd, bndV]
  intro n s ⟨i, hi, hl, hn, hs⟩
  subst hs
  rw [hl]
  rcases Nat.lt_or_ge i need.length with hlt | hge
  · have hk : need[i]? = some need[i] := List.getElem?_eq_getElem hlt
    have hlt' : i < price.length := by omega
    have hk' : price[i]? = some price[i] := List.getElem?_eq_getElem hlt'
    have hw := succ64 (i := i) (by omega)
    have hd : (bnd (need.drop i) 200 && bnd (price.drop i) 1000) = (((decide (0 ≤ need[i]) && decide (need[i] ≤ 200)) && bnd (need.drop (i + 1)) 200) && ((decide (0 ≤ price[i]) && decide (price[i] ≤ 1000)) && bnd (price.drop (i + 1)) 1000)) := by
      unfold bnd
      rw [all_drop hlt, all_drop hlt']
    repeat' first
      | refine VW.seq ?_
      | (refine VW.evalK (C := []) trivial (by kernel_rfl) ?_; simp [hlt, hlt', hk, hk', hw])
      | (refine VW.evalDK (C := []) trivial mixed (by kernel_rfl) ?_; simp [hlt, hlt', hk, hk', hw])
      | (refine VW.ret (VRet.fin ?_); simp [hlt, hlt', hk, hk', hw])
      | refine VW.condT rfl ?_
      | refine VW.condF rfl ?_
      | (refine VW.condB rfl (fun h => ?_) (fun h => ?_))
      | (refine VW.skip ?_; simp only [vthen, vblock])
      | refine VW.block ?_
      | (refine VW.exit ?_; simp only [vthen, vblock, if_true])
    · simp only [Bool.or_eq_true, decide_eq_true_eq] at h
      have : (decide (0 ≤ need[i]) && decide (need[i] ≤ 200) && (decide (0 ≤ price[i]) && decide (price[i] ≤ 1000))) = false := by
        rw [Bool.eq_false_iff]
        simp only [ne_eq, Bool.and_eq_true, decide_eq_true_eq]
        omega
      have hf : (bnd (need.drop i) 200 && bnd (price.drop i) 1000) = false := by rw [hd]; grind
      intro a b
      rw [a, b] at hf
      cases hf
    · simp only [Bool.or_eq_false_iff, decide_eq_false_iff_not] at h
      have hd' : (bnd (need.drop i) 200 && bnd (price.drop i) 1000) = (bnd (need.drop (i + 1)) 200 && bnd (price.drop (i + 1)) 1000) := by
        rw [hd]
        have e1 : 0 ≤ need[i] := by omega
        have e2 : need[i] ≤ 200 := by omega
        have e3 : 0 ≤ price[i] := by omega
        have e4 : price[i] ≤ 1000 := by omega
        simp [e1, e2, e3, e4]
      refine ⟨need.length - (i + 1), { t := [.agg [.sl 1 (ints need), .sl 1 (ints price), .i .i64 m, .i .i64 y, .i .i64 st, .i .i64 f, .i .i64 l], .ptr 0 0 0, .b false, .i .i64 (need.length : Int), .any, .any, .any, .any, .any, .any, .any, .any, .any, .any, .any, .any, .any, .any, .any, .any, .any, .i .i64 (need.length : Int), .i .i64 (((i + 1) : Nat) : Int), .any, .any, .any, .any, .any, .any, .any, .any, .any, .any, .any, .any, .any, .any, .any, .any, .any, .any, .any, .any, .any, .any, .any, .any, .any, .any, .any, .any, .any, .any, .any, .any, .any, .any, .any, .any, .any, .any, .any, .any, .any, .any, .any, .any, .any, .any, .any, .any, .any, .any, .any, .any, .any, .any, .any, .any, .any, .any, .any, .any, .any, .any, .any, .any, .any, .any, .any, .any, .any, .any, .any, .any, .any, .any, .any, .any, .any, .any, .any, .any, .any, .any, .any], m := [some (7, [[.sl 1 (ints need), .sl 1 (ints price), .i .i64 m, .i .i64 y, .i .i64 st, .i .i64 f, .i .i64 l]])] }, Ent.to 1 ?_ ?_ ?_ ?_ ?_, by omega, i + 1, by omega, by first | exact hl.trans hd' | exact hd', rfl, rfl⟩
      · simp [fgt]
      · simp
      · simp
      · simp [bndT, bndV]
      · simp [bndM, ints_bnd, bndV]
  · obtain rfl : i = need.length := by omega
    have hz : (bnd (need.drop need.length) 200 && bnd (price.drop need.length) 1000) = true := by
      have e : price.drop need.length = [] := List.drop_eq_nil_of_le (by omega)
      simp [bnd, e]
    rw [hz]
    repeat' first
      | refine VW.seq ?_
      | (refine VW.evalK (C := []) trivial (by kernel_rfl) ?_; simp)
      | (refine VW.evalDK (C := []) trivial mixed (by kernel_rfl) ?_; simp)
      | (refine VW.ret (VRet.fin ?_); simp)
      | refine VW.condT rfl ?_
      | refine VW.condF rfl ?_
      | (refine VW.condB rfl (fun h => ?_) (fun h => ?_))
      | (refine VW.skip ?_; simp only [vthen, vblock])
      | refine VW.block ?_
      | (refine VW.exit ?_; simp only [vthen, vblock, if_true])
    all_goals (simp only [validN]; try grind)
end Go.Proofs.Yteggncgiflgopaa
