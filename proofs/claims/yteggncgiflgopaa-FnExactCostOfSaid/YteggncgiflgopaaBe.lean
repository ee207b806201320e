/- StoresOf: the program's and the reference's. -/
import Derived.Test.YteggncgiflgopaaBd
import Derived.KernelRfl
namespace Go.Proofs.Yteggncgiflgopaa
open Go.RowKit Go.VL
set_option linter.unusedSimpArgs false
set_option linter.unusedVariables false

/-- The stores behind the slots from k on. -/
def runS (s : Sea) : Int → Nat → List Int → Option (List Int)
  | _, _, [] => some []
  | at_, k, n :: rest => match aft s k at_ n with
    | none => none
    | some v => (runS s v (k + 1) rest).map (v :: ·)
def codeS (s : Sea) (plan : List Int) : Int := if valid s = false then 1 else if plan.length ≠ s.need.length ∨ bnd plan s.most = false then 2 else 0
def storesR (s : Sea) (plan : List Int) : List Int × Int :=
  if codeS s plan ≠ 0 then ([], codeS s plan) else match runS s s.first 0 plan with
    | none => ([], 4)
    | some l => (l, 0)
open Classical in
@[simp] noncomputable def codeF : List V → Option V
  | [.agg [.sl 1 a, .sl 1 b, .i .i64 m, .i .i64 y, .i .i64 st, .i .i64 f, .i .i64 l], .sl 1 p] => if Two a b ∧ One p then some (.i .i64 (codeS ⟨dec a, dec b, m, y, st, f, l⟩ (dec p))) else none
  | _ => none
open Classical in
@[simp] noncomputable def storesP : List V → Option V
  | [.cptr [.sl 1 a, .sl 1 b, .i .i64 m, .i .i64 y, .i .i64 st, .i .i64 f, .i .i64 l] 0, .sl 1 p] => if Two a b ∧ One p then some (.tup [.own 1 (ints (storesR ⟨dec a, dec b, m, y, st, f, l⟩ (dec p)).1), .i .i64 (storesR ⟨dec a, dec b, m, y, st, f, l⟩ (dec p)).2]) else none
  | _ => none
open Classical in
@[simp] noncomputable def storesF : List V → Option V
  | [.agg [.sl 1 a, .sl 1 b, .i .i64 m, .i .i64 y, .i .i64 st, .i .i64 f, .i .i64 l], .sl 1 p] => if Two a b ∧ One p then some (.tup [if (storesR ⟨dec a, dec b, m, y, st, f, l⟩ (dec p)).2 = 0 then .own 1 (ints (storesR ⟨dec a, dec b, m, y, st, f, l⟩ (dec p)).1) else .nil, .i .i64 (storesR ⟨dec a, dec b, m, y, st, f, l⟩ (dec p)).2]) else none
  | _ => none
theorem aft_range {s : Sea} {slot store logs v : Int} (hv : valid s = true) (hr : inR s slot store logs = true) (hq : aft s slot store logs = some v) : 0 ≤ v ∧ v ≤ s.store := by
  obtain ⟨u1, u2, u3, u4, u5, u6, u7, u8, u9, u10, u11, u12, u13, u14, u15⟩ := valid_inv hv
  obtain ⟨r1, r2, _⟩ := inR_inv hr
  obtain ⟨w1, w2, w3, w4, w5⟩ := aft_wraps hv hr (List.getElem?_eq_getElem r2)
  rw [w5] at hq
  split at hq
  · cases hq
  · rename_i hh
    cases hq
    have p1 := Int.mul_nonneg (show 0 ≤ store + logs * s.yield - s.need[slot.toNat] by omega) u14
    have p2 : (store + logs * s.yield - s.need[slot.toNat]) * s.loss ≤ (store + logs * s.yield - s.need[slot.toNat]) * 100 := Int.mul_le_mul_of_nonneg_left u15 (by omega)
    rw [Int.tdiv_eq_ediv_of_nonneg p1]
    split <;> omega
theorem runS_drop {s : Sea} {at_ : Int} {plan : List Int} {i : Nat} (h : i < plan.length) : runS s at_ i (plan.drop i) = match aft s i at_ plan[i] with
    | none => none
    | some v => (runS s v (i + 1) (plan.drop (i + 1))).map (v :: ·) := by
  rw [List.drop_eq_getElem_cons h, runS]
theorem bnd_get {xs : List Int} {most : Int} (h : bnd xs most = true) {i : Nat} (hi : i < xs.length) : 0 ≤ xs[i] ∧ xs[i] ≤ most := by
  simp only [bnd, List.all_eq_true, Bool.and_eq_true, decide_eq_true_eq] at h
  exact h _ (List.getElem_mem hi)
set_option maxRecDepth 100000 in
set_option maxHeartbeats 4000000 in
/- loop.example/g01229/impl.planCode -/
theorem ok61 : Tells Try.prog 61 codeF := by
  refine ⟨by kernel_rfl, fun args r h => ?_⟩
  unfold codeF at h
  split at h
  rotate_left
  · cases h
  rename_i a b m y st f l p
  split at h
  rotate_left
  · cases h
  rename_i hE
  cases h
  obtain ⟨⟨ha, hb, la, lb⟩, hp, lp⟩ := hE
  obtain ⟨need, rfl⟩ := ha.get
  obtain ⟨price, rfl⟩ := hb.get
  obtain ⟨plan, rfl⟩ := hp.get
  simp only [ints_length, dec_ints] at *
  refine VCalls.of Try.func61 rfl rfl rfl ?_
  simp only [List.reduceReplicate, List.cons_append, List.nil_append, List.length_cons, List.length_nil, Nat.reduceAdd, Nat.reduceSub]
  cases hv : valid ⟨need, price, m, y, st, f, l⟩
  · have hres : codeS ⟨need, price, m, y, st, f, l⟩ plan = 1 := by simp [codeS, hv]
    rw [hres]
    repeat' first
      | refine VW.seq ?_
      | (refine VW.evalK (C := [(18, validF)]) ⟨ok18, trivial⟩ (by kernel_rfl) ?_; simp [la, lb, hv])
      | (refine VW.evalDK (C := [(18, validF)]) ⟨ok18, trivial⟩ mixed (by kernel_rfl) ?_; simp [la, lb, hv])
      | (refine VW.ret (VRet.fin ?_); simp [la, lb, hv])
      | refine VW.condT rfl ?_
      | refine VW.condF rfl ?_
      | (refine VW.condB rfl (fun h => ?_) (fun h => ?_))
      | (refine VW.skip ?_; simp only [vthen, vblock])
      | refine VW.block ?_
      | (refine VW.exit ?_; simp only [vthen, vblock, if_true])
  by_cases hlen : plan.length = need.length
  rotate_left
  · have hne : ((plan.length : Int) != (need.length : Int)) = true := by simp; omega
    have hres : codeS ⟨need, price, m, y, st, f, l⟩ plan = 2 := by simp [codeS, hv, hlen]
    rw [hres]
    repeat' first
      | refine VW.seq ?_
      | (refine VW.evalK (C := [(18, validF)]) ⟨ok18, trivial⟩ (by kernel_rfl) ?_; simp [la, lb, hv, hne])
      | (refine VW.evalDK (C := [(18, validF)]) ⟨ok18, trivial⟩ mixed (by kernel_rfl) ?_; simp [la, lb, hv, hne])
      | (refine VW.ret (VRet.fin ?_); simp [la, lb, hv, hne])
      | refine VW.condT rfl ?_
      | refine VW.condF rfl ?_
      | (refine VW.condB rfl (fun h => ?_) (fun h => ?_))
      | (refine VW.skip ?_; simp only [vthen, vblock])
      | refine VW.block ?_
      | (refine VW.exit ?_; simp only [vthen, vblock, if_true])
  have hres : codeS ⟨need, price, m, y, st, f, l⟩ plan = if bnd plan m = false then 2 else 0 := by simp [codeS, hv, hlen]
  have hne : ((plan.length : Int) != (need.length : Int)) = false := by simp; omega
  rw [hres]
  repeat' first
    | refine VW.seq ?_
    | (refine VW.evalK (C := [(18, validF)]) ⟨ok18, trivial⟩ (by kernel_rfl) ?_; simp [la, lb, hv, hne])
    | (refine VW.evalDK (C := [(18, validF)]) ⟨ok18, trivial⟩ mixed (by kernel_rfl) ?_; simp [la, lb, hv, hne])
    | (refine VW.ret (VRet.fin ?_); simp [la, lb, hv, hne])
    | refine VW.condT rfl ?_
    | refine VW.condF rfl ?_
    | (refine VW.condB rfl (fun h => ?_) (fun h => ?_))
    | (refine VW.skip ?_; simp only [vthen, vblock])
    | refine VW.block ?_
    | (refine VW.exit ?_; simp only [vthen, vblock, if_true])
  refine VW.loop (fun n s => ∃ i, i ≤ plan.length ∧ bnd plan m = bnd (plan.drop i) m ∧ n = plan.length - i ∧ s = { t := [.agg [.sl 1 (ints need), .sl 1 (ints price), .i .i64 m, .i .i64 y, .i .i64 st, .i .i64 f, .i .i64 l], .sl 1 (ints plan), .ptr 0 0 0, .any, .i .i64 0, .any, .any, .any, .any, .any, .any, .any, .any, .any, .any, .any, .sl 1 (ints plan), .i .i64 (plan.length : Int), .i .i64 ((i : Nat) : Int), .any, .any, .any, .any, .any, .any, .any, .any, .any, .any, .any, .any], m := [some (7, [[.sl 1 (ints need), .sl 1 (ints price), .i .i64 m, .i .i64 y, .i .i64 st, .i .i64 f, .i .i64 l]])] }) (n0 := plan.length) (s0 := { t := [.agg [.sl 1 (ints need), .sl 1 (ints price), .i .i64 m, .i .i64 y, .i .i64 st, .i .i64 f, .i .i64 l], .sl 1 (ints plan), .ptr 0 0 0, .any, .i .i64 0, .any, .any, .any, .any, .any, .any, .any, .any, .any, .any, .any, .sl 1 (ints plan), .i .i64 (plan.length : Int), .i .i64 ((0 : Nat) : Int), .any, .any, .any, .any, .any, .any, .any, .any, .any, .any, .any, .any], m := [some (7, [[.sl 1 (ints need), .sl 1 (ints price), .i .i64 m, .i .i64 y, .i .i64 st, .i .i64 f, .i .i64 l]])] }) (Ent.to 1 ?_ ?_ ?_ ?_ ?_) ⟨0, by omega, by simp, by omega, rfl⟩ ?_
  · simp [fgt]
  · simp
  · simp
  · simp [bndT, bndV]
  · simp [bndM, ints_bnd, bndV]
  intro n s ⟨i, hi, hl, hn, hs⟩
  subst hs
  rw [hl]
  rcases Nat.lt_or_ge i plan.length with hlt | hge
  · have hk : plan[i]? = some plan[i] := List.getElem?_eq_getElem hlt
    have hw := succ64 (i := i) (by omega)
    have hd : bnd (plan.drop i) m = ((decide (0 ≤ plan[i]) && decide (plan[i] ≤ m)) && bnd (plan.drop (i + 1)) m) := all_drop hlt
    by_cases hx : 0 ≤ plan[i] ∧ plan[i] ≤ m
    · have e1 : ¬ plan[i] < 0 := by omega
      have e2 : ¬ m < plan[i] := by omega
      have hd' : bnd (plan.drop i) m = bnd (plan.drop (i + 1)) m := by rw [hd]; simp [hx.1, hx.2]
      repeat' first
        | refine VW.seq ?_
        | (refine VW.evalK (C := [(18, validF)]) ⟨ok18, trivial⟩ (by kernel_rfl) ?_; simp [hlt, hk, hw, e1, e2])
        | (refine VW.evalDK (C := [(18, validF)]) ⟨ok18, trivial⟩ mixed (by kernel_rfl) ?_; simp [hlt, hk, hw, e1, e2])
        | (refine VW.ret (VRet.fin ?_); simp [hlt, hk, hw, e1, e2])
        | refine VW.condT rfl ?_
        | refine VW.condF rfl ?_
        | (refine VW.condB rfl (fun h => ?_) (fun h => ?_))
        | (refine VW.skip ?_; simp only [vthen, vblock])
        | refine VW.block ?_
        | (refine VW.exit ?_; simp only [vthen, vblock, if_true])
      refine ⟨plan.length - (i + 1), { t := [.agg [.sl 1 (ints need), .sl 1 (ints price), .i .i64 m, .i .i64 y, .i .i64 st, .i .i64 f, .i .i64 l], .sl 1 (ints plan), .ptr 0 0 0, .any, .i .i64 0, .any, .any, .any, .any, .any, .any, .any, .any, .any, .any, .any, .sl 1 (ints plan), .i .i64 (plan.length : Int), .i .i64 (((i + 1) : Nat) : Int), .any, .any, .any, .any, .any, .any, .any, .any, .any, .any, .any, .any], m := [some (7, [[.sl 1 (ints need), .sl 1 (ints price), .i .i64 m, .i .i64 y, .i .i64 st, .i .i64 f, .i .i64 l]])] }, Ent.to 1 ?_ ?_ ?_ ?_ ?_, by omega, i + 1, by omega, by first | exact hl.trans hd' | exact hd', rfl, rfl⟩
      · simp [fgt]
      · simp
      · simp
      · simp [bndT, bndV]
      · simp [bndM, ints_bnd, bndV]
    · have hd' : bnd (plan.drop i) m = false := by
        rw [hd]
        have : (decide (0 ≤ plan[i]) && decide (plan[i] ≤ m)) = false := by rw [Bool.eq_false_iff]; simpa using hx
        rw [this, Bool.false_and]
      rw [hd']
      repeat' first
        | refine VW.seq ?_
        | (refine VW.evalK (C := [(18, validF)]) ⟨ok18, trivial⟩ (by kernel_rfl) ?_; simp [hlt, hk, hw])
        | (refine VW.evalDK (C := [(18, validF)]) ⟨ok18, trivial⟩ mixed (by kernel_rfl) ?_; simp [hlt, hk, hw])
        | (refine VW.ret (VRet.fin ?_); simp [hlt, hk, hw])
        | refine VW.condT rfl ?_
        | refine VW.condF rfl ?_
        | (refine VW.condB rfl (fun h => ?_) (fun h => ?_))
        | (refine VW.skip ?_; simp only [vthen, vblock])
        | refine VW.block ?_
        | (refine VW.exit ?_; simp only [vthen, vblock, if_true])
      all_goals (exfalso; simp at h; omega)
  · obtain rfl : i = plan.length := by omega
    have hz : bnd (plan.drop plan.length) m = true := by simp [bnd]
    rw [hz]
    repeat' first
      | refine VW.seq ?_
      | (refine VW.evalK (C := [(18, validF)]) ⟨ok18, trivial⟩ (by kernel_rfl) ?_; simp)
      | (refine VW.evalDK (C := [(18, validF)]) ⟨ok18, trivial⟩ mixed (by kernel_rfl) ?_; simp)
      | (refine VW.ret (VRet.fin ?_); simp)
      | refine VW.condT rfl ?_
      | refine VW.condF rfl ?_
      | (refine VW.condB rfl (fun h => ?_) (fun h => ?_))
      | (refine VW.skip ?_; simp only [vthen, vblock])
      | refine VW.block ?_
      | (refine VW.exit ?_; simp only [vthen, vblock, if_true])
abbrev J60 (need price plan : List Int) (m y st f l : Int) (n : Nat) (s : VS) : Prop := ∃ i acc at_, i ≤ plan.length ∧ acc.length = i ∧ 0 ≤ at_ ∧ at_ ≤ st ∧ runS ⟨need, price, m, y, st, f, l⟩ f 0 plan = (runS ⟨need, price, m, y, st, f, l⟩ at_ i (plan.drop i)).map (acc ++ ·) ∧ n = plan.length - i ∧ s = { t := [.cptr [.sl 1 (ints need), .sl 1 (ints price), .i .i64 m, .i .i64 y, .i .i64 st, .i .i64 f, .i .i64 l] 0, .sl 1 (ints plan), .any, .any, .nil, .i .i64 0, .ref 0 0 acc.length, .i .i64 at_, .i .i64 ((i : Nat) : Int), .any, .any, .any, .any, .any, .any, .any, .any, .any, .any, .any, .any, .any, .any, .any, .any, .any, .any, .any, .any, .any, .any, .any, .any, .any, .any, .any, .any, .any, .any, .any, .any, .any, .any, .any, .any, .any, .any, .any, .any, .any, .any, .any, .any, .any, .any, .any, .any, .any], m := [some (1, ints acc)] }
set_option maxRecDepth 100000 in
set_option maxHeartbeats 4000000 in
/- loop.example/g01229/spec.l07Stores -/
theorem ok60 : Tells Try.prog 60 storesP := by
  refine ⟨by kernel_rfl, fun args r h => ?_⟩
  unfold storesP at h
  split at h
  rotate_left
  · cases h
  rename_i a b m y st f l p
  split at h
  rotate_left
  · cases h
  rename_i hE
  cases h
  obtain ⟨⟨ha, hb, la, lb⟩, hp, lp⟩ := hE
  obtain ⟨need, rfl⟩ := ha.get
  obtain ⟨price, rfl⟩ := hb.get
  obtain ⟨plan, rfl⟩ := hp.get
  simp only [ints_length, dec_ints] at *
  refine VCalls.of Try.func60 rfl rfl rfl ?_
  simp only [List.reduceReplicate, List.cons_append, List.nil_append, List.length_cons, List.length_nil, Nat.reduceAdd, Nat.reduceSub]
  cases hv : valid ⟨need, price, m, y, st, f, l⟩
  · have hres : storesR ⟨need, price, m, y, st, f, l⟩ plan = ([], 1) := by simp [storesR, codeS, hv]
    have hcode : codeS ⟨need, price, m, y, st, f, l⟩ plan = 1 := by simp [codeS, hv]
    rw [hres]
    repeat' first
      | refine VW.seq ?_
      | (refine VW.evalK (C := [(51, validP), (55, afterP), (66, bndF)]) ⟨ok51, ok55, ok66, trivial⟩ (by kernel_rfl) ?_; simp [la, lb, lp, hv, hcode])
      | (refine VW.evalDK (C := [(51, validP), (55, afterP), (66, bndF)]) ⟨ok51, ok55, ok66, trivial⟩ mixed (by kernel_rfl) ?_; simp [la, lb, lp, hv, hcode])
      | (refine VW.ret (VRet.fin ?_); simp [la, lb, lp, hv, hcode])
      | refine VW.condT rfl ?_
      | refine VW.condF rfl ?_
      | (refine VW.condB rfl (fun h => ?_) (fun h => ?_))
      | (refine VW.skip ?_; simp only [vthen, vblock])
      | refine VW.block ?_
      | (refine VW.exit ?_; simp only [vthen, vblock, if_true])
  by_cases hlen : plan.length = need.length
  rotate_left
  · have hne : ((plan.length : Int) != (need.length : Int)) = true := by simp; omega
    have hcode : codeS ⟨need, price, m, y, st, f, l⟩ plan = 2 := by simp [codeS, hv, hlen]
    have hres : storesR ⟨need, price, m, y, st, f, l⟩ plan = ([], 2) := by simp [storesR, hcode]
    rw [hres]
    repeat' first
      | refine VW.seq ?_
      | (refine VW.evalK (C := [(51, validP), (55, afterP), (66, bndF)]) ⟨ok51, ok55, ok66, trivial⟩ (by kernel_rfl) ?_; simp [la, lb, lp, hv, hne, hcode])
      | (refine VW.evalDK (C := [(51, validP), (55, afterP), (66, bndF)]) ⟨ok51, ok55, ok66, trivial⟩ mixed (by kernel_rfl) ?_; simp [la, lb, lp, hv, hne, hcode])
      | (refine VW.ret (VRet.fin ?_); simp [la, lb, lp, hv, hne, hcode])
      | refine VW.condT rfl ?_
      | refine VW.condF rfl ?_
      | (refine VW.condB rfl (fun h => ?_) (fun h => ?_))
      | (refine VW.skip ?_; simp only [vthen, vblock])
      | refine VW.block ?_
      | (refine VW.exit ?_; simp only [vthen, vblock, if_true])
  have hne : ((plan.length : Int) != (need.length : Int)) = false := by simp; omega
  cases hbd : bnd plan m
  · have hcode : codeS ⟨need, price, m, y, st, f, l⟩ plan = 2 := by simp [codeS, hv, hlen, hbd]
    have hres : storesR ⟨need, price, m, y, st, f, l⟩ plan = ([], 2) := by simp [storesR, hcode]
    rw [hres]
    repeat' first
      | refine VW.seq ?_
      | (refine VW.evalK (C := [(51, validP), (55, afterP), (66, bndF)]) ⟨ok51, ok55, ok66, trivial⟩ (by kernel_rfl) ?_; simp [la, lb, lp, hv, hne, hbd, hcode])
      | (refine VW.evalDK (C := [(51, validP), (55, afterP), (66, bndF)]) ⟨ok51, ok55, ok66, trivial⟩ mixed (by kernel_rfl) ?_; simp [la, lb, lp, hv, hne, hbd, hcode])
      | (refine VW.ret (VRet.fin ?_); simp [la, lb, lp, hv, hne, hbd, hcode])
      | refine VW.condT rfl ?_
      | refine VW.condF rfl ?_
      | (refine VW.condB rfl (fun h => ?_) (fun h => ?_))
      | (refine VW.skip ?_; simp only [vthen, vblock])
      | refine VW.block ?_
      | (refine VW.exit ?_; simp only [vthen, vblock, if_true])
  have hcode : codeS ⟨need, price, m, y, st, f, l⟩ plan = 0 := by simp [codeS, hv, hlen, hbd]
  obtain ⟨v1, v2, v3, v4, v5, v6, v7, v8, v9, v10, v11, v12, v13, v14, v15⟩ := valid_inv hv
  simp only at v1 v2 v10 v11 v12 v13
  repeat' first
    | refine VW.seq ?_
    | (refine VW.evalK (C := [(51, validP), (55, afterP), (66, bndF)]) ⟨ok51, ok55, ok66, trivial⟩ (by kernel_rfl) ?_; simp [la, lb, lp, hv, hne, hbd, hcode])
    | (refine VW.evalDK (C := [(51, validP), (55, afterP), (66, bndF)]) ⟨ok51, ok55, ok66, trivial⟩ mixed (by kernel_rfl) ?_; simp [la, lb, lp, hv, hne, hbd, hcode])
    | (refine VW.ret (VRet.fin ?_); simp [la, lb, lp, hv, hne, hbd, hcode])
    | refine VW.condT rfl ?_
    | refine VW.condF rfl ?_
    | (refine VW.condB rfl (fun h => ?_) (fun h => ?_))
    | (refine VW.skip ?_; simp only [vthen, vblock])
    | refine VW.block ?_
    | (refine VW.exit ?_; simp only [vthen, vblock, if_true])
  refine VW.loop (J60 need price plan m y st f l) (n0 := plan.length) (s0 := { t := [.cptr [.sl 1 (ints need), .sl 1 (ints price), .i .i64 m, .i .i64 y, .i .i64 st, .i .i64 f, .i .i64 l] 0, .sl 1 (ints plan), .any, .any, .nil, .i .i64 0, .ref 0 0 0, .i .i64 f, .i .i64 ((0 : Nat) : Int), .any, .any, .any, .any, .any, .any, .any, .any, .any, .any, .any, .any, .any, .any, .any, .any, .any, .any, .any, .any, .any, .any, .any, .any, .any, .any, .any, .any, .any, .any, .any, .any, .any, .any, .any, .any, .any, .any, .any, .any, .any, .any, .any, .any, .any, .any, .any, .any, .any], m := [some (1, ints [])] }) (Ent.to 1 ?_ ?_ ?_ ?_ ?_) ⟨0, [], f, by omega, rfl, v12, v13, by simp, by omega, rfl⟩ ?_
  · simp [fgt]
  · simp
  · simp
  · simp [bndT, bndV]
  · simp [bndM, ints_bnd, bndV]
  intro n s ⟨i, acc, at_, hi, hal, ha0, ha1, hl, hn, hs⟩
  subst hs
  rcases Nat.lt_or_ge i plan.length with hlt | hge
  · have hk : plan[i]? = some plan[i] := List.getElem?_eq_getElem hlt
    have hw := succ64 (i := i) (by omega)
    obtain ⟨b1, b2⟩ := bnd_get hbd hlt
    have hr : inR ⟨need, price, m, y, st, f, l⟩ (i : Int) at_ plan[i] = true := by
      simp only [inR, Bool.and_eq_true, decide_eq_true_eq]
      omega
    rw [runS_drop hlt] at hl
    cases hq : aft ⟨need, price, m, y, st, f, l⟩ (i : Int) at_ plan[i] with
    | none =>
      rw [hq] at hl
      have hres : storesR ⟨need, price, m, y, st, f, l⟩ plan = ([], 4) := by simp [storesR, hcode, hl]
      rw [hres]
      repeat' first
        | refine VW.seq ?_
        | (refine VW.evalK (C := [(51, validP), (55, afterP), (66, bndF)]) ⟨ok51, ok55, ok66, trivial⟩ (by kernel_rfl) ?_; simp [la, lb, lp, hlt, hk, hw, hv, hr, hq])
        | (refine VW.evalDK (C := [(51, validP), (55, afterP), (66, bndF)]) ⟨ok51, ok55, ok66, trivial⟩ mixed (by kernel_rfl) ?_; simp [la, lb, lp, hlt, hk, hw, hv, hr, hq])
        | (refine VW.ret (VRet.fin ?_); simp [la, lb, lp, hlt, hk, hw, hv, hr, hq])
        | refine VW.condT rfl ?_
        | refine VW.condF rfl ?_
        | (refine VW.condB rfl (fun h => ?_) (fun h => ?_))
        | (refine VW.skip ?_; simp only [vthen, vblock])
        | refine VW.block ?_
        | (refine VW.exit ?_; simp only [vthen, vblock, if_true])
    | some v =>
      rw [hq] at hl
      obtain ⟨q1, q2⟩ := aft_range hv hr hq
      simp only at q2
      have hnn : ¬ v < 0 := by omega
      have hcap : (acc.length + 1) * 8 ≤ 140737488355328 := by omega
      have hcap2 : acc.length + 1 ≤ 9223372036854775807 := by omega
      repeat' first
        | refine VW.seq ?_
        | (refine VW.evalK (C := [(51, validP), (55, afterP), (66, bndF)]) ⟨ok51, ok55, ok66, trivial⟩ (by kernel_rfl) ?_; simp [la, lb, lp, hlt, hk, hw, hv, hr, hq, hnn, hcap, hcap2])
        | (refine VW.evalDK (C := [(51, validP), (55, afterP), (66, bndF)]) ⟨ok51, ok55, ok66, trivial⟩ mixed (by kernel_rfl) ?_; simp [la, lb, lp, hlt, hk, hw, hv, hr, hq, hnn, hcap, hcap2])
        | (refine VW.ret (VRet.fin ?_); simp [la, lb, lp, hlt, hk, hw, hv, hr, hq, hnn, hcap, hcap2])
        | refine VW.condT rfl ?_
        | refine VW.condF rfl ?_
        | (refine VW.condB rfl (fun h => ?_) (fun h => ?_))
        | (refine VW.skip ?_; simp only [vthen, vblock])
        | refine VW.block ?_
        | (refine VW.exit ?_; simp only [vthen, vblock, if_true])
      refine ⟨plan.length - (i + 1), { t := [.cptr [.sl 1 (ints need), .sl 1 (ints price), .i .i64 m, .i .i64 y, .i .i64 st, .i .i64 f, .i .i64 l] 0, .sl 1 (ints plan), .any, .any, .nil, .i .i64 0, .ref 0 0 (acc ++ [v]).length, .i .i64 v, .i .i64 (((i + 1) : Nat) : Int), .any, .any, .any, .any, .any, .any, .any, .any, .any, .any, .any, .any, .any, .any, .any, .any, .any, .any, .any, .any, .any, .any, .any, .any, .any, .any, .any, .any, .any, .any, .any, .any, .any, .any, .any, .any, .any, .any, .any, .any, .any, .any, .any, .any, .any, .any, .any, .any, .any], m := [some (1, ints (acc ++ [v]))] }, Ent.to 1 ?_ ?_ ?_ ?_ ?_, by omega, i + 1, acc ++ [v], v, by omega, by simp [hal], q1, q2, ?_, rfl, rfl⟩
      · simp [fgt]
      · simp
      · simp
      · simp [bndT, bndV]
      · simp [bndM, ints_bnd, bndV]
      · rw [hl]
        simp [Function.comp_def]
  · have hie : i = plan.length := by omega
    subst hie
    have hres : storesR ⟨need, price, m, y, st, f, l⟩ plan = (acc, 0) := by
      have : plan.drop plan.length = [] := by simp
      rw [this] at hl
      simp [storesR, hcode, hl, runS]
    rw [hres]
    repeat' first
      | refine VW.seq ?_
      | (refine VW.evalK (C := [(51, validP), (55, afterP), (66, bndF)]) ⟨ok51, ok55, ok66, trivial⟩ (by kernel_rfl) ?_; simp)
      | (refine VW.evalDK (C := [(51, validP), (55, afterP), (66, bndF)]) ⟨ok51, ok55, ok66, trivial⟩ mixed (by kernel_rfl) ?_; simp)
      | (refine VW.ret (VRet.fin ?_); simp)
      | refine VW.condT rfl ?_
      | refine VW.condF rfl ?_
      | (refine VW.condB rfl (fun h => ?_) (fun h => ?_))
      | (refine VW.skip ?_; simp only [vthen, vblock])
      | refine VW.block ?_
      | (refine VW.exit ?_; simp only [vthen, vblock, if_true])
abbrev J34 (need price plan : List Int) (m y st f l : Int) (n : Nat) (s : VS) : Prop := ∃ i acc at_, i ≤ plan.length ∧ acc.length = i ∧ 0 ≤ at_ ∧ at_ ≤ st ∧ runS ⟨need, price, m, y, st, f, l⟩ f 0 plan = (runS ⟨need, price, m, y, st, f, l⟩ at_ i (plan.drop i)).map (acc ++ ·) ∧ n = plan.length - i ∧ s = { t := [.agg [.sl 1 (ints need), .sl 1 (ints price), .i .i64 m, .i .i64 y, .i .i64 st, .i .i64 f, .i .i64 l], .sl 1 (ints plan), .ptr 0 0 0, .any, .nil, .i .i64 0, .i .i64 0, .ref 1 0 acc.length, .i .i64 at_, .any, .any, .any, .any, .any, .any, .any, .any, .any, .any, .any, .any, .any, .sl 1 (ints plan), .i .i64 (plan.length : Int), .i .i64 ((i : Nat) : Int), .any, .any, .any, .any, .any, .any, .any, .any, .any, .any, .any, .any, .any, .any, .any, .any, .any, .any, .any, .any, .any], m := [some (7, [[.sl 1 (ints need), .sl 1 (ints price), .i .i64 m, .i .i64 y, .i .i64 st, .i .i64 f, .i .i64 l]]), some (1, ints acc)] }
set_option maxRecDepth 100000 in
set_option maxHeartbeats 4000000 in
/- loop.example/g01229/impl.StoresOf -/
theorem ok34 : Tells Try.prog 34 storesF := by
  refine ⟨by kernel_rfl, fun args r h => ?_⟩
  unfold storesF at h
  split at h
  rotate_left
  · cases h
  rename_i a b m y st f l p
  split at h
  rotate_left
  · cases h
  rename_i hE
  cases h
  obtain ⟨⟨ha, hb, la, lb⟩, hp, lp⟩ := hE
  obtain ⟨need, rfl⟩ := ha.get
  obtain ⟨price, rfl⟩ := hb.get
  obtain ⟨plan, rfl⟩ := hp.get
  simp only [ints_length, dec_ints] at *
  refine VCalls.of Try.func34 rfl rfl rfl ?_
  simp only [List.reduceReplicate, List.cons_append, List.nil_append, List.length_cons, List.length_nil, Nat.reduceAdd, Nat.reduceSub]
  cases hv : valid ⟨need, price, m, y, st, f, l⟩
  · have hres : storesR ⟨need, price, m, y, st, f, l⟩ plan = ([], 1) := by simp [storesR, codeS, hv]
    have hcode : codeS ⟨need, price, m, y, st, f, l⟩ plan = 1 := by simp [codeS, hv]
    rw [hres]
    repeat' first
      | refine VW.seq ?_
      | (refine VW.evalK (C := [(56, afterF), (61, codeF)]) ⟨ok56, ok61, trivial⟩ (by kernel_rfl) ?_; simp [la, lb, lp, hv, hcode])
      | (refine VW.evalDK (C := [(56, afterF), (61, codeF)]) ⟨ok56, ok61, trivial⟩ mixed (by kernel_rfl) ?_; simp [la, lb, lp, hv, hcode])
      | (refine VW.ret (VRet.fin ?_); simp [la, lb, lp, hv, hcode])
      | refine VW.condT rfl ?_
      | refine VW.condF rfl ?_
      | (refine VW.condB rfl (fun h => ?_) (fun h => ?_))
      | (refine VW.skip ?_; simp only [vthen, vblock])
      | refine VW.block ?_
      | (refine VW.exit ?_; simp only [vthen, vblock, if_true])
  by_cases hlen : plan.length = need.length
  rotate_left
  · have hne : ((plan.length : Int) != (need.length : Int)) = true := by simp; omega
    have hcode : codeS ⟨need, price, m, y, st, f, l⟩ plan = 2 := by simp [codeS, hv, hlen]
    have hres : storesR ⟨need, price, m, y, st, f, l⟩ plan = ([], 2) := by simp [storesR, hcode]
    rw [hres]
    repeat' first
      | refine VW.seq ?_
      | (refine VW.evalK (C := [(56, afterF), (61, codeF)]) ⟨ok56, ok61, trivial⟩ (by kernel_rfl) ?_; simp [la, lb, lp, hv, hne, hcode])
      | (refine VW.evalDK (C := [(56, afterF), (61, codeF)]) ⟨ok56, ok61, trivial⟩ mixed (by kernel_rfl) ?_; simp [la, lb, lp, hv, hne, hcode])
      | (refine VW.ret (VRet.fin ?_); simp [la, lb, lp, hv, hne, hcode])
      | refine VW.condT rfl ?_
      | refine VW.condF rfl ?_
      | (refine VW.condB rfl (fun h => ?_) (fun h => ?_))
      | (refine VW.skip ?_; simp only [vthen, vblock])
      | refine VW.block ?_
      | (refine VW.exit ?_; simp only [vthen, vblock, if_true])
  have hne : ((plan.length : Int) != (need.length : Int)) = false := by simp; omega
  cases hbd : bnd plan m
  · have hcode : codeS ⟨need, price, m, y, st, f, l⟩ plan = 2 := by simp [codeS, hv, hlen, hbd]
    have hres : storesR ⟨need, price, m, y, st, f, l⟩ plan = ([], 2) := by simp [storesR, hcode]
    rw [hres]
    repeat' first
      | refine VW.seq ?_
      | (refine VW.evalK (C := [(56, afterF), (61, codeF)]) ⟨ok56, ok61, trivial⟩ (by kernel_rfl) ?_; simp [la, lb, lp, hv, hne, hbd, hcode])
      | (refine VW.evalDK (C := [(56, afterF), (61, codeF)]) ⟨ok56, ok61, trivial⟩ mixed (by kernel_rfl) ?_; simp [la, lb, lp, hv, hne, hbd, hcode])
      | (refine VW.ret (VRet.fin ?_); simp [la, lb, lp, hv, hne, hbd, hcode])
      | refine VW.condT rfl ?_
      | refine VW.condF rfl ?_
      | (refine VW.condB rfl (fun h => ?_) (fun h => ?_))
      | (refine VW.skip ?_; simp only [vthen, vblock])
      | refine VW.block ?_
      | (refine VW.exit ?_; simp only [vthen, vblock, if_true])
  have hcode : codeS ⟨need, price, m, y, st, f, l⟩ plan = 0 := by simp [codeS, hv, hlen, hbd]
  obtain ⟨v1, v2, v3, v4, v5, v6, v7, v8, v9, v10, v11, v12, v13, v14, v15⟩ := valid_inv hv
  simp only at v1 v2 v10 v11 v12 v13
  repeat' first
    | refine VW.seq ?_
    | (refine VW.evalK (C := [(56, afterF), (61, codeF)]) ⟨ok56, ok61, trivial⟩ (by kernel_rfl) ?_; simp [la, lb, lp, hv, hne, hbd, hcode])
    | (refine VW.evalDK (C := [(56, afterF), (61, codeF)]) ⟨ok56, ok61, trivial⟩ mixed (by kernel_rfl) ?_; simp [la, lb, lp, hv, hne, hbd, hcode])
    | (refine VW.ret (VRet.fin ?_); simp [la, lb, lp, hv, hne, hbd, hcode])
    | refine VW.condT rfl ?_
    | refine VW.condF rfl ?_
    | (refine VW.condB rfl (fun h => ?_) (fun h => ?_))
    | (refine VW.skip ?_; simp only [vthen, vblock])
    | refine VW.block ?_
    | (refine VW.exit ?_; simp only [vthen, vblock, if_true])
  refine VW.loop (J34 need price plan m y st f l) (n0 := plan.length) (s0 := { t := [.agg [.sl 1 (ints need), .sl 1 (ints price), .i .i64 m, .i .i64 y, .i .i64 st, .i .i64 f, .i .i64 l], .sl 1 (ints plan), .ptr 0 0 0, .any, .nil, .i .i64 0, .i .i64 0, .ref 1 0 0, .i .i64 f, .any, .any, .any, .any, .any, .any, .any, .any, .any, .any, .any, .any, .any, .sl 1 (ints plan), .i .i64 (plan.length : Int), .i .i64 ((0 : Nat) : Int), .any, .any, .any, .any, .any, .any, .any, .any, .any, .any, .any, .any, .any, .any, .any, .any, .any, .any, .any, .any, .any], m := [some (7, [[.sl 1 (ints need), .sl 1 (ints price), .i .i64 m, .i .i64 y, .i .i64 st, .i .i64 f, .i .i64 l]]), some (1, ints [])] }) (Ent.to 2 ?_ ?_ ?_ ?_ ?_) ⟨0, [], f, by omega, rfl, v12, v13, by simp, by omega, rfl⟩ ?_
  · simp [fgt]
  · simp
  · simp
  · simp [bndT, bndV]
  · simp [bndM, ints_bnd, bndV]
  intro n s ⟨i, acc, at_, hi, hal, ha0, ha1, hl, hn, hs⟩
  subst hs
  rcases Nat.lt_or_ge i plan.length with hlt | hge
  · have hk : plan[i]? = some plan[i] := List.getElem?_eq_getElem hlt
    have hw := succ64 (i := i) (by omega)
    obtain ⟨b1, b2⟩ := bnd_get hbd hlt
    have hr : inR ⟨need, price, m, y, st, f, l⟩ (i : Int) at_ plan[i] = true := by
      simp only [inR, Bool.and_eq_true, decide_eq_true_eq]
      omega
    rw [runS_drop hlt] at hl
    cases hq : aft ⟨need, price, m, y, st, f, l⟩ (i : Int) at_ plan[i] with
    | none =>
      rw [hq] at hl
      have hres : storesR ⟨need, price, m, y, st, f, l⟩ plan = ([], 4) := by simp [storesR, hcode, hl]
      rw [hres]
      repeat' first
        | refine VW.seq ?_
        | (refine VW.evalK (C := [(56, afterF), (61, codeF)]) ⟨ok56, ok61, trivial⟩ (by kernel_rfl) ?_; simp [la, lb, lp, hlt, hk, hw, hv, hr, hq])
        | (refine VW.evalDK (C := [(56, afterF), (61, codeF)]) ⟨ok56, ok61, trivial⟩ mixed (by kernel_rfl) ?_; simp [la, lb, lp, hlt, hk, hw, hv, hr, hq])
        | (refine VW.ret (VRet.fin ?_); simp [la, lb, lp, hlt, hk, hw, hv, hr, hq])
        | refine VW.condT rfl ?_
        | refine VW.condF rfl ?_
        | (refine VW.condB rfl (fun h => ?_) (fun h => ?_))
        | (refine VW.skip ?_; simp only [vthen, vblock])
        | refine VW.block ?_
        | (refine VW.exit ?_; simp only [vthen, vblock, if_true])
    | some v =>
      rw [hq] at hl
      obtain ⟨q1, q2⟩ := aft_range hv hr hq
      simp only at q2
      have hnn : ¬ v < 0 := by omega
      have hcap : (acc.length + 1) * 8 ≤ 140737488355328 := by omega
      have hcap2 : acc.length + 1 ≤ 9223372036854775807 := by omega
      repeat' first
        | refine VW.seq ?_
        | (refine VW.evalK (C := [(56, afterF), (61, codeF)]) ⟨ok56, ok61, trivial⟩ (by kernel_rfl) ?_; simp [la, lb, lp, hlt, hk, hw, hv, hr, hq, hnn, hcap, hcap2])
        | (refine VW.evalDK (C := [(56, afterF), (61, codeF)]) ⟨ok56, ok61, trivial⟩ mixed (by kernel_rfl) ?_; simp [la, lb, lp, hlt, hk, hw, hv, hr, hq, hnn, hcap, hcap2])
        | (refine VW.ret (VRet.fin ?_); simp [la, lb, lp, hlt, hk, hw, hv, hr, hq, hnn, hcap, hcap2])
        | refine VW.condT rfl ?_
        | refine VW.condF rfl ?_
        | (refine VW.condB rfl (fun h => ?_) (fun h => ?_))
        | (refine VW.skip ?_; simp only [vthen, vblock])
        | refine VW.block ?_
        | (refine VW.exit ?_; simp only [vthen, vblock, if_true])
      refine ⟨plan.length - (i + 1), { t := [.agg [.sl 1 (ints need), .sl 1 (ints price), .i .i64 m, .i .i64 y, .i .i64 st, .i .i64 f, .i .i64 l], .sl 1 (ints plan), .ptr 0 0 0, .any, .nil, .i .i64 0, .i .i64 0, .ref 1 0 (acc ++ [v]).length, .i .i64 v, .any, .any, .any, .any, .any, .any, .any, .any, .any, .any, .any, .any, .any, .sl 1 (ints plan), .i .i64 (plan.length : Int), .i .i64 (((i + 1) : Nat) : Int), .any, .any, .any, .any, .any, .any, .any, .any, .any, .any, .any, .any, .any, .any, .any, .any, .any, .any, .any, .any, .any], m := [some (7, [[.sl 1 (ints need), .sl 1 (ints price), .i .i64 m, .i .i64 y, .i .i64 st, .i .i64 f, .i .i64 l]]), some (1, ints (acc ++ [v]))] }, Ent.to 2 ?_ ?_ ?_ ?_ ?_, by omega, i + 1, acc ++ [v], v, by omega, by simp [hal], q1, q2, ?_, rfl, rfl⟩
      · simp [fgt]
      · simp
      · simp
      · simp [bndT, bndV]
      · simp [bndM, ints_bnd, bndV]
      · rw [hl]
        simp [Function.comp_def]
  · have hie : i = plan.length := by omega
    subst hie
    have hres : storesR ⟨need, price, m, y, st, f, l⟩ plan = (acc, 0) := by
      have : plan.drop plan.length = [] := by simp
      rw [this] at hl
      simp [storesR, hcode, hl, runS]
    rw [hres]
    repeat' first
      | refine VW.seq ?_
      | (refine VW.evalK (C := [(56, afterF), (61, codeF)]) ⟨ok56, ok61, trivial⟩ (by kernel_rfl) ?_; simp)
      | (refine VW.evalDK (C := [(56, afterF), (61, codeF)]) ⟨ok56, ok61, trivial⟩ mixed (by kernel_rfl) ?_; simp)
      | (refine VW.ret (VRet.fin ?_); simp)
      | refine VW.condT rfl ?_
      | refine VW.condF rfl ?_
      | (refine VW.condB rfl (fun h => ?_) (fun h => ?_))
      | (refine VW.skip ?_; simp only [vthen, vblock])
      | refine VW.block ?_
      | (refine VW.exit ?_; simp only [vthen, vblock, if_true])
end Go.Proofs.Yteggncgiflgopaa
