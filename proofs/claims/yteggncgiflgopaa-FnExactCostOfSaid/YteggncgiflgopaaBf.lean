/- CostOf: the program's and the reference's. -/
import Derived.Test.YteggncgiflgopaaBe
import Derived.KernelRfl
namespace Go.Proofs.Yteggncgiflgopaa
open Go.RowKit Go.VL
set_option linter.unusedSimpArgs false
set_option linter.unusedVariables false

def dot : List Int → List Int → Int
  | x :: xs, y :: ys => x * y + dot xs ys
  | _, _ => 0
def costR (s : Sea) (plan : List Int) : Int × Int := if (storesR s plan).2 ≠ 0 then (0, (storesR s plan).2) else (dot s.price plan, 0)
open Classical in
@[simp] noncomputable def costP : List V → Option V
  | [.cptr [.sl 1 a, .sl 1 b, .i .i64 m, .i .i64 y, .i .i64 st, .i .i64 f, .i .i64 l] 0, .sl 1 p] => if Two a b ∧ One p then some (.tup [.i .i64 (costR ⟨dec a, dec b, m, y, st, f, l⟩ (dec p)).1, .i .i64 (costR ⟨dec a, dec b, m, y, st, f, l⟩ (dec p)).2]) else none
  | _ => none
open Classical in
@[simp] noncomputable def costF : List V → Option V
  | [.agg [.sl 1 a, .sl 1 b, .i .i64 m, .i .i64 y, .i .i64 st, .i .i64 f, .i .i64 l], .sl 1 p] => if Two a b ∧ One p then some (.tup [.i .i64 (costR ⟨dec a, dec b, m, y, st, f, l⟩ (dec p)).1, .i .i64 (costR ⟨dec a, dec b, m, y, st, f, l⟩ (dec p)).2]) else none
  | _ => none
theorem dot_drop {xs ys : List Int} {i : Nat} (h : i < xs.length) (h' : i < ys.length) : dot (xs.drop i) (ys.drop i) = xs[i] * ys[i] + dot (xs.drop (i + 1)) (ys.drop (i + 1)) := by
  rw [List.drop_eq_getElem_cons h, List.drop_eq_getElem_cons h', dot]
/-- A plan that does is a plan of a valid season. -/
theorem stores_ok {s : Sea} {plan : List Int} (h : (storesR s plan).2 = 0) : valid s = true ∧ plan.length = s.need.length ∧ bnd plan s.most = true := by
  unfold storesR at h
  split at h
  · rename_i hc
    exact absurd h hc
  · rename_i hc
    simp only [ne_eq, Decidable.not_not] at hc
    unfold codeS at hc
    split at hc
    · cases hc
    · rename_i hv
      split at hc
      · cases hc
      · rename_i h2
        simp only [not_or, ne_eq, Decidable.not_not, Bool.not_eq_false] at h2
        exact ⟨by simpa using hv, h2.1, h2.2⟩
abbrev J57 (need price plan : List Int) (m y st f l : Int) (n : Nat) (s : VS) : Prop := ∃ (i : Nat) (acc : Int), i ≤ plan.length ∧ 0 ≤ acc ∧ acc ≤ (i : Int) * 20000 ∧ dot price plan = acc + dot (price.drop i) (plan.drop i) ∧ n = plan.length - i ∧ s = { t := [.cptr [.sl 1 (ints need), .sl 1 (ints price), .i .i64 m, .i .i64 y, .i .i64 st, .i .i64 f, .i .i64 l] 0, .sl 1 (ints plan), .any, .any, .i .i64 0, .i .i64 0, .any, .any, .i .i64 acc, .i .i64 ((i : Nat) : Int), .any, .any, .any, .any, .any, .any, .any, .any, .any, .any, .any, .any, .any, .any, .any, .any, .any, .any, .any, .any, .any, .any, .any, .any, .any, .any, .any, .any, .any, .any], m := [] }
set_option maxRecDepth 100000 in
set_option maxHeartbeats 4000000 in
/- loop.example/g01229/spec.l07Cost -/
theorem ok57 : Tells Try.prog 57 costP := by
  refine ⟨by kernel_rfl, fun args r h => ?_⟩
  unfold costP at h
  split at h
  rotate_left
  · cases h
  rename_i a b m y st f l p
  split at h
  rotate_left
  · cases h
  rename_i hE
  cases h
  obtain ⟨⟨ha, hb, la, lb⟩, hp, lp⟩ := hE
  obtain ⟨need, rfl⟩ := ha.get
  obtain ⟨price, rfl⟩ := hb.get
  obtain ⟨plan, rfl⟩ := hp.get
  simp only [ints_length, dec_ints] at *
  refine VCalls.of Try.func57 rfl rfl rfl ?_
  simp only [List.reduceReplicate, List.cons_append, List.nil_append, List.length_cons, List.length_nil, Nat.reduceAdd, Nat.reduceSub]
  by_cases hc : (storesR ⟨need, price, m, y, st, f, l⟩ plan).2 = 0
  rotate_left
  · have hres : costR ⟨need, price, m, y, st, f, l⟩ plan = (0, (storesR ⟨need, price, m, y, st, f, l⟩ plan).2) := by simp [costR, hc]
    have hcb : ((storesR ⟨need, price, m, y, st, f, l⟩ plan).2 != 0) = true := by simpa using hc
    rw [hres]
    repeat' first
      | refine VW.seq ?_
      | (refine VW.evalK (C := [(60, storesP)]) ⟨ok60, trivial⟩ (by kernel_rfl) ?_; simp [la, lb, lp, hc, hcb])
      | (refine VW.evalDK (C := [(60, storesP)]) ⟨ok60, trivial⟩ mixed (by kernel_rfl) ?_; simp [la, lb, lp, hc, hcb])
      | (refine VW.ret (VRet.fin ?_); simp [la, lb, lp, hc, hcb])
      | refine VW.condT rfl ?_
      | refine VW.condF rfl ?_
      | (refine VW.condB rfl (fun h => ?_) (fun h => ?_))
      | (refine VW.skip ?_; simp only [vthen, vblock])
      | refine VW.block ?_
      | (refine VW.exit ?_; simp only [vthen, vblock, if_true])
  have hres : costR ⟨need, price, m, y, st, f, l⟩ plan = (dot price plan, 0) := by simp [costR, hc]
  obtain ⟨hv, hlen, hbd⟩ := stores_ok hc
  obtain ⟨v1, v2, v3, v4, v5, v6, v7, v8, v9, v10, v11, v12, v13, v14, v15⟩ := valid_inv hv
  simp only at v1 v2 v3 v5 v7 hlen
  rw [hres]
  repeat' first
    | refine VW.seq ?_
    | (refine VW.evalK (C := [(60, storesP)]) ⟨ok60, trivial⟩ (by kernel_rfl) ?_; simp [la, lb, lp, hc])
    | (refine VW.evalDK (C := [(60, storesP)]) ⟨ok60, trivial⟩ mixed (by kernel_rfl) ?_; simp [la, lb, lp, hc])
    | (refine VW.ret (VRet.fin ?_); simp [la, lb, lp, hc])
    | refine VW.condT rfl ?_
    | refine VW.condF rfl ?_
    | (refine VW.condB rfl (fun h => ?_) (fun h => ?_))
    | (refine VW.skip ?_; simp only [vthen, vblock])
    | refine VW.block ?_
    | (refine VW.exit ?_; simp only [vthen, vblock, if_true])
  refine VW.loop (J57 need price plan m y st f l) (n0 := plan.length) (s0 := { t := [.cptr [.sl 1 (ints need), .sl 1 (ints price), .i .i64 m, .i .i64 y, .i .i64 st, .i .i64 f, .i .i64 l] 0, .sl 1 (ints plan), .any, .any, .i .i64 0, .i .i64 0, .any, .any, .i .i64 0, .i .i64 ((0 : Nat) : Int), .any, .any, .any, .any, .any, .any, .any, .any, .any, .any, .any, .any, .any, .any, .any, .any, .any, .any, .any, .any, .any, .any, .any, .any, .any, .any, .any, .any, .any, .any], m := [] }) (Ent.to 0 ?_ ?_ ?_ ?_ ?_) ⟨0, 0, by omega, by omega, by omega, by simp, by omega, rfl⟩ ?_
  · simp [fgt]
  · simp
  · simp
  · simp [bndT, bndV]
  · simp [bndM, ints_bnd, bndV]
  intro n s ⟨i, acc, hi, ha0, ha1, hl, hn, hs⟩
  subst hs
  rcases Nat.lt_or_ge i plan.length with hlt | hge
  · have hk : plan[i]? = some plan[i] := List.getElem?_eq_getElem hlt
    have hlt' : i < price.length := by omega
    have hk' : price[i]? = some price[i] := List.getElem?_eq_getElem hlt'
    have hw := succ64 (i := i) (by omega)
    obtain ⟨b1, b2⟩ := bnd_get hbd hlt
    simp only at b2
    obtain ⟨p1, p2⟩ := v5 price[i] (List.getElem_mem hlt')
    obtain ⟨m1, m2⟩ := mul_bnd p1 p2 b1 (show plan[i] ≤ 20 by omega)
    have hd := dot_drop hlt' hlt
    have w1 : IntKind.i64.wrap (price[i] * plan[i]) = price[i] * plan[i] := wrap64 (by omega) (by omega)
    have w2 : IntKind.i64.wrap (acc + price[i] * plan[i]) = acc + price[i] * plan[i] := wrap64 (by omega) (by omega)
    repeat' first
      | refine VW.seq ?_
      | (refine VW.evalK (C := [(60, storesP)]) ⟨ok60, trivial⟩ (by kernel_rfl) ?_; simp [la, lb, lp, hlt, hlt', hk, hk', hw, w1, w2])
      | (refine VW.evalDK (C := [(60, storesP)]) ⟨ok60, trivial⟩ mixed (by kernel_rfl) ?_; simp [la, lb, lp, hlt, hlt', hk, hk', hw, w1, w2])
      | (refine VW.ret (VRet.fin ?_); simp [la, lb, lp, hlt, hlt', hk, hk', hw, w1, w2])
      | refine VW.condT rfl ?_
      | refine VW.condF rfl ?_
      | (refine VW.condB rfl (fun h => ?_) (fun h => ?_))
      | (refine VW.skip ?_; simp only [vthen, vblock])
      | refine VW.block ?_
      | (refine VW.exit ?_; simp only [vthen, vblock, if_true])
    refine ⟨plan.length - (i + 1), { t := [.cptr [.sl 1 (ints need), .sl 1 (ints price), .i .i64 m, .i .i64 y, .i .i64 st, .i .i64 f, .i .i64 l] 0, .sl 1 (ints plan), .any, .any, .i .i64 0, .i .i64 0, .any, .any, .i .i64 (acc + price[i] * plan[i]), .i .i64 (((i + 1) : Nat) : Int), .any, .any, .any, .any, .any, .any, .any, .any, .any, .any, .any, .any, .any, .any, .any, .any, .any, .any, .any, .any, .any, .any, .any, .any, .any, .any, .any, .any, .any, .any], m := [] }, Ent.to 0 ?_ ?_ ?_ ?_ ?_, by omega, i + 1, acc + price[i] * plan[i], by omega, by omega, by omega, by rw [hl, hd]; omega, rfl, rfl⟩
    · simp [fgt]
    · simp
    · simp
    · simp [bndT, bndV]
    · simp [bndM, ints_bnd, bndV]
  · have hie : i = plan.length := by omega
    have hz : dot price plan = acc := by
      rw [hl, List.drop_eq_nil_of_le (show plan.length ≤ i by omega), List.drop_eq_nil_of_le (show price.length ≤ i by omega)]
      simp [dot]
    subst hie
    rw [hz]
    repeat' first
      | refine VW.seq ?_
      | (refine VW.evalK (C := [(60, storesP)]) ⟨ok60, trivial⟩ (by kernel_rfl) ?_; simp)
      | (refine VW.evalDK (C := [(60, storesP)]) ⟨ok60, trivial⟩ mixed (by kernel_rfl) ?_; simp)
      | (refine VW.ret (VRet.fin ?_); simp)
      | refine VW.condT rfl ?_
      | refine VW.condF rfl ?_
      | (refine VW.condB rfl (fun h => ?_) (fun h => ?_))
      | (refine VW.skip ?_; simp only [vthen, vblock])
      | refine VW.block ?_
      | (refine VW.exit ?_; simp only [vthen, vblock, if_true])
abbrev J26 (need price plan : List Int) (m y st f l : Int) (n : Nat) (s : VS) : Prop := ∃ (i : Nat) (acc : Int), i ≤ plan.length ∧ 0 ≤ acc ∧ acc ≤ (i : Int) * 20000 ∧ dot price plan = acc + dot (price.drop i) (plan.drop i) ∧ n = plan.length - i ∧ s = { t := [.agg [.sl 1 (ints need), .sl 1 (ints price), .i .i64 m, .i .i64 y, .i .i64 st, .i .i64 f, .i .i64 l], .sl 1 (ints plan), .ptr 0 0 0, .any, .i .i64 0, .i .i64 0, .any, .any, .i .i64 acc, .any, .any, .any, .any, .any, .any, .any, .any, .any, .any, .any, .sl 1 (ints plan), .i .i64 (plan.length : Int), .i .i64 ((i : Nat) : Int), .any, .any, .any, .any, .any, .any, .any, .any, .any, .any, .any, .any, .any, .any, .any], m := [some (7, [[.sl 1 (ints need), .sl 1 (ints price), .i .i64 m, .i .i64 y, .i .i64 st, .i .i64 f, .i .i64 l]])] }
set_option maxRecDepth 100000 in
set_option maxHeartbeats 4000000 in
/- loop.example/g01229/impl.CostOf -/
theorem ok26 : Tells Try.prog 26 costF := by
  refine ⟨by kernel_rfl, fun args r h => ?_⟩
  unfold costF at h
  split at h
  rotate_left
  · cases h
  rename_i a b m y st f l p
  split at h
  rotate_left
  · cases h
  rename_i hE
  cases h
  obtain ⟨⟨ha, hb, la, lb⟩, hp, lp⟩ := hE
  obtain ⟨need, rfl⟩ := ha.get
  obtain ⟨price, rfl⟩ := hb.get
  obtain ⟨plan, rfl⟩ := hp.get
  simp only [ints_length, dec_ints] at *
  refine VCalls.of Try.func26 rfl rfl rfl ?_
  simp only [List.reduceReplicate, List.cons_append, List.nil_append, List.length_cons, List.length_nil, Nat.reduceAdd, Nat.reduceSub]
  by_cases hc : (storesR ⟨need, price, m, y, st, f, l⟩ plan).2 = 0
  rotate_left
  · have hres : costR ⟨need, price, m, y, st, f, l⟩ plan = (0, (storesR ⟨need, price, m, y, st, f, l⟩ plan).2) := by simp [costR, hc]
    have hcb : ((storesR ⟨need, price, m, y, st, f, l⟩ plan).2 != 0) = true := by simpa using hc
    rw [hres]
    repeat' first
      | refine VW.seq ?_
      | (refine VW.evalK (C := [(34, storesF)]) ⟨ok34, trivial⟩ (by kernel_rfl) ?_; simp [la, lb, lp, hc, hcb])
      | (refine VW.evalDK (C := [(34, storesF)]) ⟨ok34, trivial⟩ mixed (by kernel_rfl) ?_; simp [la, lb, lp, hc, hcb])
      | (refine VW.ret (VRet.fin ?_); simp [la, lb, lp, hc, hcb])
      | refine VW.condT rfl ?_
      | refine VW.condF rfl ?_
      | (refine VW.condB rfl (fun h => ?_) (fun h => ?_))
      | (refine VW.skip ?_; simp only [vthen, vblock])
      | refine VW.block ?_
      | (refine VW.exit ?_; simp only [vthen, vblock, if_true])
  have hres : costR ⟨need, price, m, y, st, f, l⟩ plan = (dot price plan, 0) := by simp [costR, hc]
  obtain ⟨hv, hlen, hbd⟩ := stores_ok hc
  obtain ⟨v1, v2, v3, v4, v5, v6, v7, v8, v9, v10, v11, v12, v13, v14, v15⟩ := valid_inv hv
  simp only at v1 v2 v3 v5 v7 hlen
  rw [hres]
  repeat' first
    | refine VW.seq ?_
    | (refine VW.evalK (C := [(34, storesF)]) ⟨ok34, trivial⟩ (by kernel_rfl) ?_; simp [la, lb, lp, hc])
    | (refine VW.evalDK (C := [(34, storesF)]) ⟨ok34, trivial⟩ mixed (by kernel_rfl) ?_; simp [la, lb, lp, hc])
    | (refine VW.ret (VRet.fin ?_); simp [la, lb, lp, hc])
    | refine VW.condT rfl ?_
    | refine VW.condF rfl ?_
    | (refine VW.condB rfl (fun h => ?_) (fun h => ?_))
    | (refine VW.skip ?_; simp only [vthen, vblock])
    | refine VW.block ?_
    | (refine VW.exit ?_; simp only [vthen, vblock, if_true])
  refine VW.loop (J26 need price plan m y st f l) (n0 := plan.length) (s0 := { t := [.agg [.sl 1 (ints need), .sl 1 (ints price), .i .i64 m, .i .i64 y, .i .i64 st, .i .i64 f, .i .i64 l], .sl 1 (ints plan), .ptr 0 0 0, .any, .i .i64 0, .i .i64 0, .any, .any, .i .i64 0, .any, .any, .any, .any, .any, .any, .any, .any, .any, .any, .any, .sl 1 (ints plan), .i .i64 (plan.length : Int), .i .i64 ((0 : Nat) : Int), .any, .any, .any, .any, .any, .any, .any, .any, .any, .any, .any, .any, .any, .any, .any], m := [some (7, [[.sl 1 (ints need), .sl 1 (ints price), .i .i64 m, .i .i64 y, .i .i64 st, .i .i64 f, .i .i64 l]])] }) (Ent.to 1 ?_ ?_ ?_ ?_ ?_) ⟨0, 0, by omega, by omega, by omega, by simp, by omega, rfl⟩ ?_
  · simp [fgt]
  · simp
  · simp
  · simp [bndT, bndV]
  · simp [bndM, ints_bnd, bndV]
  intro n s ⟨i, acc, hi, ha0, ha1, hl, hn, hs⟩
  subst hs
  rcases Nat.lt_or_ge i plan.length with hlt | hge
  · have hk : plan[i]? = some plan[i] := List.getElem?_eq_getElem hlt
    have hlt' : i < price.length := by omega
    have hk' : price[i]? = some price[i] := List.getElem?_eq_getElem hlt'
    have hw := succ64 (i := i) (by omega)
    obtain ⟨b1, b2⟩ := bnd_get hbd hlt
    simp only at b2
    obtain ⟨p1, p2⟩ := v5 price[i] (List.getElem_mem hlt')
    obtain ⟨m1, m2⟩ := mul_bnd p1 p2 b1 (show plan[i] ≤ 20 by omega)
    have hd := dot_drop hlt' hlt
    have w1 : IntKind.i64.wrap (price[i] * plan[i]) = price[i] * plan[i] := wrap64 (by omega) (by omega)
    have w2 : IntKind.i64.wrap (acc + price[i] * plan[i]) = acc + price[i] * plan[i] := wrap64 (by omega) (by omega)
    repeat' first
      | refine VW.seq ?_
      | (refine VW.evalK (C := [(34, storesF)]) ⟨ok34, trivial⟩ (by kernel_rfl) ?_; simp [la, lb, lp, hlt, hlt', hk, hk', hw, w1, w2])
      | (refine VW.evalDK (C := [(34, storesF)]) ⟨ok34, trivial⟩ mixed (by kernel_rfl) ?_; simp [la, lb, lp, hlt, hlt', hk, hk', hw, w1, w2])
      | (refine VW.ret (VRet.fin ?_); simp [la, lb, lp, hlt, hlt', hk, hk', hw, w1, w2])
      | refine VW.condT rfl ?_
      | refine VW.condF rfl ?_
      | (refine VW.condB rfl (fun h => ?_) (fun h => ?_))
      | (refine VW.skip ?_; simp only [vthen, vblock])
      | refine VW.block ?_
      | (refine VW.exit ?_; simp only [vthen, vblock, if_true])
    refine ⟨plan.length - (i + 1), { t := [.agg [.sl 1 (ints need), .sl 1 (ints price), .i .i64 m, .i .i64 y, .i .i64 st, .i .i64 f, .i .i64 l], .sl 1 (ints plan), .ptr 0 0 0, .any, .i .i64 0, .i .i64 0, .any, .any, .i .i64 (acc + price[i] * plan[i]), .any, .any, .any, .any, .any, .any, .any, .any, .any, .any, .any, .sl 1 (ints plan), .i .i64 (plan.length : Int), .i .i64 (((i + 1) : Nat) : Int), .any, .any, .any, .any, .any, .any, .any, .any, .any, .any, .any, .any, .any, .any, .any], m := [some (7, [[.sl 1 (ints need), .sl 1 (ints price), .i .i64 m, .i .i64 y, .i .i64 st, .i .i64 f, .i .i64 l]])] }, Ent.to 1 ?_ ?_ ?_ ?_ ?_, by omega, i + 1, acc + price[i] * plan[i], by omega, by omega, by omega, by rw [hl, hd]; omega, rfl, rfl⟩
    · simp [fgt]
    · simp
    · simp
    · simp [bndT, bndV]
    · simp [bndM, ints_bnd, bndV]
  · have hie : i = plan.length := by omega
    have hz : dot price plan = acc := by
      rw [hl, List.drop_eq_nil_of_le (show plan.length ≤ i by omega), List.drop_eq_nil_of_le (show price.length ≤ i by omega)]
      simp [dot]
    subst hie
    rw [hz]
    repeat' first
      | refine VW.seq ?_
      | (refine VW.evalK (C := [(34, storesF)]) ⟨ok34, trivial⟩ (by kernel_rfl) ?_; simp)
      | (refine VW.evalDK (C := [(34, storesF)]) ⟨ok34, trivial⟩ mixed (by kernel_rfl) ?_; simp)
      | (refine VW.ret (VRet.fin ?_); simp)
      | refine VW.condT rfl ?_
      | refine VW.condF rfl ?_
      | (refine VW.condB rfl (fun h => ?_) (fun h => ?_))
      | (refine VW.skip ?_; simp only [vthen, vblock])
      | refine VW.block ?_
      | (refine VW.exit ?_; simp only [vthen, vblock, if_true])
set_option maxRecDepth 100000 in
set_option maxHeartbeats 4000000 in
/- loop.example/g01229/spec.CostOf -/
theorem ok24 : Tells Try.prog 24 costF := by
  refine ⟨by kernel_rfl, fun args r h => ?_⟩
  unfold costF at h
  split at h
  rotate_left
  · cases h
  rename_i a b m y st f l p
  split at h
  rotate_left
  · cases h
  rename_i hE
  cases h
  obtain ⟨⟨ha, hb, la, lb⟩, hp, lp⟩ := hE
  obtain ⟨need, rfl⟩ := ha.get
  obtain ⟨price, rfl⟩ := hb.get
  obtain ⟨plan, rfl⟩ := hp.get
  simp only [ints_length, dec_ints] at *
  refine VCalls.of Try.func24 rfl rfl rfl ?_
  simp only [List.reduceReplicate, List.cons_append, List.nil_append, List.length_cons, List.length_nil, Nat.reduceAdd, Nat.reduceSub]
  repeat' first
    | refine VW.seq ?_
    | (refine VW.evalK (C := [(57, costP)]) ⟨ok57, trivial⟩ (by kernel_rfl) ?_; simp [la, lb, lp])
    | (refine VW.evalDK (C := [(57, costP)]) ⟨ok57, trivial⟩ mixed (by kernel_rfl) ?_; simp [la, lb, lp])
    | (refine VW.ret (VRet.fin ?_); simp [la, lb, lp])
    | refine VW.condT rfl ?_
    | refine VW.condF rfl ?_
    | (refine VW.condB rfl (fun h => ?_) (fun h => ?_))
    | (refine VW.skip ?_; simp only [vthen, vblock])
    | refine VW.block ?_
    | (refine VW.exit ?_; simp only [vthen, vblock, if_true])
end Go.Proofs.Yteggncgiflgopaa
