/- StoreAfter: the program's and the reference's. -/
import Derived.Test.YteggncgiflgopaaBb
import Derived.KernelRfl
namespace Go.Proofs.Yteggncgiflgopaa
open Go.RowKit Go.VL
set_option linter.unusedSimpArgs false
set_option linter.unusedVariables false

/-- The store behind a slot; none if the logs do not do. -/
def aft (s : Sea) (slot store logs : Int) : Option Int :=
  let h := store + logs * s.yield - s.need.getD slot.toNat 0
  if h < 0 then none else some (if s.store < h - (h * s.loss).tdiv 100 then s.store else h - (h * s.loss).tdiv 100)
def inR (s : Sea) (slot store logs : Int) : Bool := (decide (0 ≤ slot) && decide (slot ≤ (s.need.length : Int) - 1)) && (decide (0 ≤ store) && decide (store ≤ s.store)) && (decide (0 ≤ logs) && decide (logs ≤ s.most))
def storeA (s : Sea) (slot store logs : Int) : Int × Int :=
  if valid s = false then (0, 1) else if inR s slot store logs = false then (0, 2) else match aft s slot store logs with
    | none => (0, 4)
    | some v => (v, 0)
@[simp] def leastF : List V → Option V
  | [.i .i64 a, .i .i64 b] => some (.i .i64 (if b < a then b else a))
  | _ => none
open Classical in
@[simp] noncomputable def afterP : List V → Option V
  | [.cptr [.sl 1 a, .sl 1 b, .i .i64 m, .i .i64 y, .i .i64 st, .i .i64 f, .i .i64 l] 0, .i .i64 slot, .i .i64 store, .i .i64 logs] => if Two a b ∧ valid ⟨dec a, dec b, m, y, st, f, l⟩ = true ∧ inR ⟨dec a, dec b, m, y, st, f, l⟩ slot store logs = true then some (.i .i64 ((aft ⟨dec a, dec b, m, y, st, f, l⟩ slot store logs).getD (-1))) else none
  | _ => none
open Classical in
@[simp] noncomputable def afterF : List V → Option V
  | [.agg [.sl 1 a, .sl 1 b, .i .i64 m, .i .i64 y, .i .i64 st, .i .i64 f, .i .i64 l], .i .i64 slot, .i .i64 store, .i .i64 logs] => if Two a b ∧ valid ⟨dec a, dec b, m, y, st, f, l⟩ = true ∧ inR ⟨dec a, dec b, m, y, st, f, l⟩ slot store logs = true then some (.tup [.i .i64 ((aft ⟨dec a, dec b, m, y, st, f, l⟩ slot store logs).getD 0), .b (aft ⟨dec a, dec b, m, y, st, f, l⟩ slot store logs).isSome]) else none
  | _ => none
open Classical in
@[simp] noncomputable def storeF : List V → Option V
  | [.agg [.sl 1 a, .sl 1 b, .i .i64 m, .i .i64 y, .i .i64 st, .i .i64 f, .i .i64 l], .i .i64 slot, .i .i64 store, .i .i64 logs] => if Two a b then some (.tup [.i .i64 (storeA ⟨dec a, dec b, m, y, st, f, l⟩ slot store logs).1, .i .i64 (storeA ⟨dec a, dec b, m, y, st, f, l⟩ slot store logs).2]) else none
  | _ => none

theorem valid_inv {s : Sea} (h : valid s = true) : 1 ≤ s.need.length ∧ s.need.length ≤ 24 ∧ s.price.length = s.need.length ∧ (∀ x ∈ s.need, 0 ≤ x ∧ x ≤ 200) ∧ (∀ x ∈ s.price, 0 ≤ x ∧ x ≤ 1000) ∧ 0 ≤ s.most ∧ s.most ≤ 20 ∧ 1 ≤ s.yield ∧ s.yield ≤ 40 ∧ 0 ≤ s.store ∧ s.store ≤ 60 ∧ 0 ≤ s.first ∧ s.first ≤ s.store ∧ 0 ≤ s.loss ∧ s.loss ≤ 100 := by
  simp only [valid, bnd, Bool.and_eq_true, decide_eq_true_eq, beq_iff_eq, List.all_eq_true] at h
  obtain ⟨⟨⟨⟨⟨⟨⟨⟨⟨h1, h2⟩, h3⟩, h4⟩, h5⟩, h6, h7⟩, h8, h9⟩, h10, h11⟩, h12, h13⟩, h14, h15⟩ := h
  exact ⟨by omega, by omega, h3, h4, h5, h6, h7, h8, h9, h10, h11, h12, h13, h14, h15⟩
theorem inR_inv {s : Sea} {slot store logs : Int} (h : inR s slot store logs = true) : 0 ≤ slot ∧ slot.toNat < s.need.length ∧ 0 ≤ store ∧ store ≤ s.store ∧ 0 ≤ logs ∧ logs ≤ s.most := by
  simp only [inR, Bool.and_eq_true, decide_eq_true_eq] at h
  omega
theorem mul_bnd {a b A B : Int} (h1 : 0 ≤ a) (h2 : a ≤ A) (h3 : 0 ≤ b) (h4 : b ≤ B) : 0 ≤ a * b ∧ a * b ≤ A * B :=
  ⟨Int.mul_nonneg h1 h3, Int.le_trans (Int.mul_le_mul_of_nonneg_right h2 h3) (Int.mul_le_mul_of_nonneg_left h4 (by omega))⟩
theorem tdiv_bnd {a : Int} (h : 0 ≤ a) : 0 ≤ a.tdiv 100 ∧ a.tdiv 100 ≤ a := by
  rw [Int.tdiv_eq_ediv_of_nonneg h]
  omega
/-- No number overflows. -/
theorem aft_wraps {s : Sea} {slot store logs nd : Int} (hv : valid s = true) (hr : inR s slot store logs = true) (hn : s.need[slot.toNat]? = some nd) :
    IntKind.i64.wrap (logs * s.yield) = logs * s.yield ∧ IntKind.i64.wrap (store + logs * s.yield) = store + logs * s.yield ∧ IntKind.i64.wrap (store + logs * s.yield - nd) = store + logs * s.yield - nd ∧
      (¬ store + logs * s.yield - nd < 0 → IntKind.i64.wrap ((store + logs * s.yield - nd) * s.loss) = (store + logs * s.yield - nd) * s.loss ∧ IntKind.i64.wrap (((store + logs * s.yield - nd) * s.loss).tdiv 100) = ((store + logs * s.yield - nd) * s.loss).tdiv 100 ∧
        IntKind.i64.wrap (store + logs * s.yield - nd - ((store + logs * s.yield - nd) * s.loss).tdiv 100) = store + logs * s.yield - nd - ((store + logs * s.yield - nd) * s.loss).tdiv 100) ∧
      aft s slot store logs = if store + logs * s.yield - nd < 0 then none else some (if s.store < store + logs * s.yield - nd - ((store + logs * s.yield - nd) * s.loss).tdiv 100 then s.store else store + logs * s.yield - nd - ((store + logs * s.yield - nd) * s.loss).tdiv 100) := by
  obtain ⟨v1, v2, v3, v4, v5, v6, v7, v8, v9, v10, v11, v12, v13, v14, v15⟩ := valid_inv hv
  obtain ⟨r1, r2, r3, r4, r5, r6⟩ := inR_inv hr
  obtain ⟨n1, n2⟩ := v4 nd (List.mem_of_getElem? hn)
  obtain ⟨m1, m2⟩ := mul_bnd r5 (show logs ≤ 20 by omega) (show 0 ≤ s.yield by omega) v9
  refine ⟨wrap64 (by omega) (by omega), wrap64 (by omega) (by omega), wrap64 (by omega) (by omega), fun hh => ?_, ?_⟩
  · obtain ⟨p1, p2⟩ := mul_bnd (show 0 ≤ store + logs * s.yield - nd by omega) (show store + logs * s.yield - nd ≤ 860 by omega) v14 v15
    obtain ⟨t1, t2⟩ := tdiv_bnd p1
    exact ⟨wrap64 (by omega) (by omega), wrap64 (by omega) (by omega), wrap64 (by omega) (by omega)⟩
  · simp only [aft, List.getD, hn, Option.getD_some]
set_option maxRecDepth 100000 in
set_option maxHeartbeats 4000000 in
/- loop.example/g01229/spec.l07Least -/
theorem ok65 : Tells Try.prog 65 leastF := by
  refine ⟨by kernel_rfl, fun args r h => ?_⟩
  unfold leastF at h
  split at h <;> cases h
  refine VCalls.of Try.func65 rfl rfl rfl ?_
  simp only [List.reduceReplicate, List.cons_append, List.nil_append, List.length_cons, List.length_nil, Nat.reduceAdd, Nat.reduceSub]
  repeat' first
    | refine VW.seq ?_
    | (refine VW.evalK (C := []) trivial (by kernel_rfl) ?_; simp)
    | (refine VW.evalDK (C := []) trivial mixed (by kernel_rfl) ?_; simp)
    | (refine VW.ret (VRet.fin ?_); simp)
    | refine VW.condT rfl ?_
    | refine VW.condF rfl ?_
    | (refine VW.condB rfl (fun h => ?_) (fun h => ?_))
    | (refine VW.skip ?_; simp only [vthen, vblock])
    | refine VW.block ?_
    | (refine VW.exit ?_; simp only [vthen, vblock, if_true])
  all_goals (simp at h; try omega)
  all_goals (split <;> omega)
set_option maxRecDepth 100000 in
set_option maxHeartbeats 4000000 in
/- loop.example/g01229/spec.l07After -/
theorem ok55 : Tells Try.prog 55 afterP := by
  refine ⟨by kernel_rfl, fun args r h => ?_⟩
  unfold afterP at h
  split at h
  rotate_left
  · cases h
  rename_i a b m y st f l slot store logs
  split at h
  rotate_left
  · cases h
  rename_i hE
  cases h
  obtain ⟨⟨ha, hb, la, lb⟩, hv, hr⟩ := hE
  obtain ⟨need, rfl⟩ := ha.get
  obtain ⟨price, rfl⟩ := hb.get
  simp only [ints_length, dec_ints] at *
  obtain ⟨r1, r2, _⟩ := inR_inv hr
  simp only at r2
  have hk : need[slot.toNat]? = some need[slot.toNat] := List.getElem?_eq_getElem r2
  obtain ⟨w1, w2, w3, w4, w5⟩ := aft_wraps hv hr hk
  simp only at w1 w2 w3 w4 w5
  rw [w5]
  refine VCalls.of Try.func55 rfl rfl rfl ?_
  simp only [List.reduceReplicate, List.cons_append, List.nil_append, List.length_cons, List.length_nil, Nat.reduceAdd, Nat.reduceSub]
  by_cases hh : store + logs * y - need[slot.toNat] < 0
  · repeat' first
      | refine VW.seq ?_
      | (refine VW.evalK (C := [(65, leastF)]) ⟨ok65, trivial⟩ (by kernel_rfl) ?_; simp [r1, r2, hk, w1, w2, w3, hh, decide_eq_true hh])
      | (refine VW.evalDK (C := [(65, leastF)]) ⟨ok65, trivial⟩ mixed (by kernel_rfl) ?_; simp [r1, r2, hk, w1, w2, w3, hh, decide_eq_true hh])
      | (refine VW.ret (VRet.fin ?_); simp [r1, r2, hk, w1, w2, w3, hh, decide_eq_true hh])
      | refine VW.condT rfl ?_
      | refine VW.condF rfl ?_
      | (refine VW.condB rfl (fun h => ?_) (fun h => ?_))
      | (refine VW.skip ?_; simp only [vthen, vblock])
      | refine VW.block ?_
      | (refine VW.exit ?_; simp only [vthen, vblock, if_true])
  · obtain ⟨w6, w7, w8⟩ := w4 hh
    repeat' first
      | refine VW.seq ?_
      | (refine VW.evalK (C := [(65, leastF)]) ⟨ok65, trivial⟩ (by kernel_rfl) ?_; simp [r1, r2, hk, w1, w2, w3, w6, w7, w8, hh, decide_eq_false hh])
      | (refine VW.evalDK (C := [(65, leastF)]) ⟨ok65, trivial⟩ mixed (by kernel_rfl) ?_; simp [r1, r2, hk, w1, w2, w3, w6, w7, w8, hh, decide_eq_false hh])
      | (refine VW.ret (VRet.fin ?_); simp [r1, r2, hk, w1, w2, w3, w6, w7, w8, hh, decide_eq_false hh])
      | refine VW.condT rfl ?_
      | refine VW.condF rfl ?_
      | (refine VW.condB rfl (fun h => ?_) (fun h => ?_))
      | (refine VW.skip ?_; simp only [vthen, vblock])
      | refine VW.block ?_
      | (refine VW.exit ?_; simp only [vthen, vblock, if_true])
set_option maxRecDepth 100000 in
set_option maxHeartbeats 4000000 in
/- loop.example/g01229/impl.after -/
theorem ok56 : Tells Try.prog 56 afterF := by
  refine ⟨by kernel_rfl, fun args r h => ?_⟩
  unfold afterF at h
  split at h
  rotate_left
  · cases h
  rename_i a b m y st f l slot store logs
  split at h
  rotate_left
  · cases h
  rename_i hE
  cases h
  obtain ⟨⟨ha, hb, la, lb⟩, hv, hr⟩ := hE
  obtain ⟨need, rfl⟩ := ha.get
  obtain ⟨price, rfl⟩ := hb.get
  simp only [ints_length, dec_ints] at *
  obtain ⟨r1, r2, _⟩ := inR_inv hr
  simp only at r2
  have hk : need[slot.toNat]? = some need[slot.toNat] := List.getElem?_eq_getElem r2
  obtain ⟨w1, w2, w3, w4, w5⟩ := aft_wraps hv hr hk
  simp only at w1 w2 w3 w4 w5
  rw [w5]
  refine VCalls.of Try.func56 rfl rfl rfl ?_
  simp only [List.reduceReplicate, List.cons_append, List.nil_append, List.length_cons, List.length_nil, Nat.reduceAdd, Nat.reduceSub]
  by_cases hh : store + logs * y - need[slot.toNat] < 0
  · repeat' first
      | refine VW.seq ?_
      | (refine VW.evalK (C := []) trivial (by kernel_rfl) ?_; simp [r1, r2, hk, w1, w2, w3, hh, decide_eq_true hh])
      | (refine VW.evalDK (C := []) trivial mixed (by kernel_rfl) ?_; simp [r1, r2, hk, w1, w2, w3, hh, decide_eq_true hh])
      | (refine VW.ret (VRet.fin ?_); simp [r1, r2, hk, w1, w2, w3, hh, decide_eq_true hh])
      | refine VW.condT rfl ?_
      | refine VW.condF rfl ?_
      | (refine VW.condB rfl (fun h => ?_) (fun h => ?_))
      | (refine VW.skip ?_; simp only [vthen, vblock])
      | refine VW.block ?_
      | (refine VW.exit ?_; simp only [vthen, vblock, if_true])
  · obtain ⟨w6, w7, w8⟩ := w4 hh
    repeat' first
      | refine VW.seq ?_
      | (refine VW.evalK (C := []) trivial (by kernel_rfl) ?_; simp [r1, r2, hk, w1, w2, w3, w6, w7, w8, hh, decide_eq_false hh])
      | (refine VW.evalDK (C := []) trivial mixed (by kernel_rfl) ?_; simp [r1, r2, hk, w1, w2, w3, w6, w7, w8, hh, decide_eq_false hh])
      | (refine VW.ret (VRet.fin ?_); simp [r1, r2, hk, w1, w2, w3, w6, w7, w8, hh, decide_eq_false hh])
      | refine VW.condT rfl ?_
      | refine VW.condF rfl ?_
      | (refine VW.condB rfl (fun h => ?_) (fun h => ?_))
      | (refine VW.skip ?_; simp only [vthen, vblock])
      | refine VW.block ?_
      | (refine VW.exit ?_; simp only [vthen, vblock, if_true])
set_option maxRecDepth 100000 in
set_option maxHeartbeats 4000000 in
/- loop.example/g01229/spec.StoreAfter -/
theorem ok22 : Tells Try.prog 22 storeF := by
  refine ⟨by kernel_rfl, fun args r h => ?_⟩
  unfold storeF at h
  split at h
  rotate_left
  · cases h
  rename_i a b m y st f l slot store logs
  split at h
  rotate_left
  · cases h
  rename_i hE
  cases h
  obtain ⟨ha, hb, la, lb⟩ := hE
  obtain ⟨need, rfl⟩ := ha.get
  obtain ⟨price, rfl⟩ := hb.get
  simp only [ints_length, dec_ints] at *
  refine VCalls.of Try.func22 rfl rfl rfl ?_
  simp only [List.reduceReplicate, List.cons_append, List.nil_append, List.length_cons, List.length_nil, Nat.reduceAdd, Nat.reduceSub]
  cases hv : valid ⟨need, price, m, y, st, f, l⟩
  · have hres : storeA ⟨need, price, m, y, st, f, l⟩ slot store logs = (0, 1) := by simp [storeA, hv]
    rw [hres]
    repeat' first
      | refine VW.seq ?_
      | (refine VW.evalK (C := [(51, validP), (54, inF), (55, afterP)]) ⟨ok51, ok54, ok55, trivial⟩ (by kernel_rfl) ?_; simp [la, lb, hv])
      | (refine VW.evalDK (C := [(51, validP), (54, inF), (55, afterP)]) ⟨ok51, ok54, ok55, trivial⟩ mixed (by kernel_rfl) ?_; simp [la, lb, hv])
      | (refine VW.ret (VRet.fin ?_); simp [la, lb, hv])
      | refine VW.condT rfl ?_
      | refine VW.condF rfl ?_
      | (refine VW.condB rfl (fun h => ?_) (fun h => ?_))
      | (refine VW.skip ?_; simp only [vthen, vblock])
      | refine VW.block ?_
      | (refine VW.exit ?_; simp only [vthen, vblock, if_true])
  obtain ⟨v1, v2, _⟩ := valid_inv hv
  simp only at v1 v2
  have hw : IntKind.i64.wrap ((need.length : Int) - 1) = (need.length : Int) - 1 := wrap64 (by omega) (by omega)
  cases hr : inR ⟨need, price, m, y, st, f, l⟩ slot store logs
  · have hres : storeA ⟨need, price, m, y, st, f, l⟩ slot store logs = (0, 2) := by simp [storeA, hv, hr]
    have hr' := hr
    simp only [inR] at hr'
    rw [hres]
    repeat' first
      | refine VW.seq ?_
      | (refine VW.evalK (C := [(51, validP), (54, inF), (55, afterP)]) ⟨ok51, ok54, ok55, trivial⟩ (by kernel_rfl) ?_; simp [la, lb, hv, hw])
      | (refine VW.evalDK (C := [(51, validP), (54, inF), (55, afterP)]) ⟨ok51, ok54, ok55, trivial⟩ mixed (by kernel_rfl) ?_; simp [la, lb, hv, hw])
      | (refine VW.ret (VRet.fin ?_); simp [la, lb, hv, hw])
      | refine VW.condT rfl ?_
      | refine VW.condF rfl ?_
      | (refine VW.condB rfl (fun h => ?_) (fun h => ?_))
      | (refine VW.skip ?_; simp only [vthen, vblock])
      | refine VW.block ?_
      | (refine VW.exit ?_; simp only [vthen, vblock, if_true])
    all_goals (exfalso; revert hr'; simp at h ⊢; omega)
  have hr' := hr
  simp only [inR, Bool.and_eq_true, decide_eq_true_eq] at hr'
  have e1 : ¬ slot < 0 := by omega
  have e2 : ¬ (need.length : Int) ≤ slot := by omega
  have e3 : ¬ store < 0 := by omega
  have e4 : ¬ st < store := by omega
  have e5 : ¬ logs < 0 := by omega
  have e6 : ¬ m < logs := by omega
  cases hq : aft ⟨need, price, m, y, st, f, l⟩ slot store logs with
  | none =>
    have hres : storeA ⟨need, price, m, y, st, f, l⟩ slot store logs = (0, 4) := by simp [storeA, hv, hr, hq]
    rw [hres]
    repeat' first
      | refine VW.seq ?_
      | (refine VW.evalK (C := [(51, validP), (54, inF), (55, afterP)]) ⟨ok51, ok54, ok55, trivial⟩ (by kernel_rfl) ?_; simp [la, lb, hv, hw, hr, hr', hq, e1, e2, e3, e4, e5, e6])
      | (refine VW.evalDK (C := [(51, validP), (54, inF), (55, afterP)]) ⟨ok51, ok54, ok55, trivial⟩ mixed (by kernel_rfl) ?_; simp [la, lb, hv, hw, hr, hr', hq, e1, e2, e3, e4, e5, e6])
      | (refine VW.ret (VRet.fin ?_); simp [la, lb, hv, hw, hr, hr', hq, e1, e2, e3, e4, e5, e6])
      | refine VW.condT rfl ?_
      | refine VW.condF rfl ?_
      | (refine VW.condB rfl (fun h => ?_) (fun h => ?_))
      | (refine VW.skip ?_; simp only [vthen, vblock])
      | refine VW.block ?_
      | (refine VW.exit ?_; simp only [vthen, vblock, if_true])
  | some v =>
    have hres : storeA ⟨need, price, m, y, st, f, l⟩ slot store logs = (v, 0) := by simp [storeA, hv, hr, hq]
    have hnn : ¬ v < 0 := by
      obtain ⟨u1, u2, u3, u4, u5, u6, u7, u8, u9, u10, u11, u12, u13, u14, u15⟩ := valid_inv hv
      obtain ⟨r1, r2, _⟩ := inR_inv hr
      simp only at r2 u14 u15 u10
      obtain ⟨w1, w2, w3, w4, w5⟩ := aft_wraps hv hr (List.getElem?_eq_getElem r2)
      rw [w5] at hq
      simp only at hq
      split at hq
      · cases hq
      · rename_i hh
        cases hq
        have p1 := Int.mul_nonneg (show 0 ≤ store + logs * y - need[slot.toNat] by omega) u14
        have p2 : (store + logs * y - need[slot.toNat]) * l ≤ (store + logs * y - need[slot.toNat]) * 100 := Int.mul_le_mul_of_nonneg_left u15 (by omega)
        rw [Int.tdiv_eq_ediv_of_nonneg p1]
        split <;> omega
    rw [hres]
    repeat' first
      | refine VW.seq ?_
      | (refine VW.evalK (C := [(51, validP), (54, inF), (55, afterP)]) ⟨ok51, ok54, ok55, trivial⟩ (by kernel_rfl) ?_; simp [la, lb, hv, hw, hr, hr', hq, hnn, e1, e2, e3, e4, e5, e6])
      | (refine VW.evalDK (C := [(51, validP), (54, inF), (55, afterP)]) ⟨ok51, ok54, ok55, trivial⟩ mixed (by kernel_rfl) ?_; simp [la, lb, hv, hw, hr, hr', hq, hnn, e1, e2, e3, e4, e5, e6])
      | (refine VW.ret (VRet.fin ?_); simp [la, lb, hv, hw, hr, hr', hq, hnn, e1, e2, e3, e4, e5, e6])
      | refine VW.condT rfl ?_
      | refine VW.condF rfl ?_
      | (refine VW.condB rfl (fun h => ?_) (fun h => ?_))
      | (refine VW.skip ?_; simp only [vthen, vblock])
      | refine VW.block ?_
      | (refine VW.exit ?_; simp only [vthen, vblock, if_true])
set_option maxRecDepth 100000 in
set_option maxHeartbeats 4000000 in
/- loop.example/g01229/impl.StoreAfter -/
theorem ok23 : Tells Try.prog 23 storeF := by
  refine ⟨by kernel_rfl, fun args r h => ?_⟩
  unfold storeF at h
  split at h
  rotate_left
  · cases h
  rename_i a b m y st f l slot store logs
  split at h
  rotate_left
  · cases h
  rename_i hE
  cases h
  obtain ⟨ha, hb, la, lb⟩ := hE
  obtain ⟨need, rfl⟩ := ha.get
  obtain ⟨price, rfl⟩ := hb.get
  simp only [ints_length, dec_ints] at *
  refine VCalls.of Try.func23 rfl rfl rfl ?_
  simp only [List.reduceReplicate, List.cons_append, List.nil_append, List.length_cons, List.length_nil, Nat.reduceAdd, Nat.reduceSub]
  cases hv : valid ⟨need, price, m, y, st, f, l⟩
  · have hres : storeA ⟨need, price, m, y, st, f, l⟩ slot store logs = (0, 1) := by simp [storeA, hv]
    rw [hres]
    repeat' first
      | refine VW.seq ?_
      | (refine VW.evalK (C := [(18, validF), (56, afterF)]) ⟨ok18, ok56, trivial⟩ (by kernel_rfl) ?_; simp [la, lb, hv])
      | (refine VW.evalDK (C := [(18, validF), (56, afterF)]) ⟨ok18, ok56, trivial⟩ mixed (by kernel_rfl) ?_; simp [la, lb, hv])
      | (refine VW.ret (VRet.fin ?_); simp [la, lb, hv])
      | refine VW.condT rfl ?_
      | refine VW.condF rfl ?_
      | (refine VW.condB rfl (fun h => ?_) (fun h => ?_))
      | (refine VW.skip ?_; simp only [vthen, vblock])
      | refine VW.block ?_
      | (refine VW.exit ?_; simp only [vthen, vblock, if_true])
  obtain ⟨v1, v2, _⟩ := valid_inv hv
  simp only at v1 v2
  have hw : IntKind.i64.wrap ((need.length : Int) - 1) = (need.length : Int) - 1 := wrap64 (by omega) (by omega)
  cases hr : inR ⟨need, price, m, y, st, f, l⟩ slot store logs
  · have hres : storeA ⟨need, price, m, y, st, f, l⟩ slot store logs = (0, 2) := by simp [storeA, hv, hr]
    have hr' := hr
    simp only [inR] at hr'
    rw [hres]
    repeat' first
      | refine VW.seq ?_
      | (refine VW.evalK (C := [(18, validF), (56, afterF)]) ⟨ok18, ok56, trivial⟩ (by kernel_rfl) ?_; simp [la, lb, hv, hw])
      | (refine VW.evalDK (C := [(18, validF), (56, afterF)]) ⟨ok18, ok56, trivial⟩ mixed (by kernel_rfl) ?_; simp [la, lb, hv, hw])
      | (refine VW.ret (VRet.fin ?_); simp [la, lb, hv, hw])
      | refine VW.condT rfl ?_
      | refine VW.condF rfl ?_
      | (refine VW.condB rfl (fun h => ?_) (fun h => ?_))
      | (refine VW.skip ?_; simp only [vthen, vblock])
      | refine VW.block ?_
      | (refine VW.exit ?_; simp only [vthen, vblock, if_true])
    all_goals (exfalso; revert hr'; simp at h ⊢; omega)
  have hr' := hr
  simp only [inR, Bool.and_eq_true, decide_eq_true_eq] at hr'
  have e1 : ¬ slot < 0 := by omega
  have e2 : ¬ (need.length : Int) ≤ slot := by omega
  have e3 : ¬ store < 0 := by omega
  have e4 : ¬ st < store := by omega
  have e5 : ¬ logs < 0 := by omega
  have e6 : ¬ m < logs := by omega
  cases hq : aft ⟨need, price, m, y, st, f, l⟩ slot store logs with
  | none =>
    have hres : storeA ⟨need, price, m, y, st, f, l⟩ slot store logs = (0, 4) := by simp [storeA, hv, hr, hq]
    rw [hres]
    repeat' first
      | refine VW.seq ?_
      | (refine VW.evalK (C := [(18, validF), (56, afterF)]) ⟨ok18, ok56, trivial⟩ (by kernel_rfl) ?_; simp [la, lb, hv, hw, hr, hr', hq, e1, e2, e3, e4, e5, e6])
      | (refine VW.evalDK (C := [(18, validF), (56, afterF)]) ⟨ok18, ok56, trivial⟩ mixed (by kernel_rfl) ?_; simp [la, lb, hv, hw, hr, hr', hq, e1, e2, e3, e4, e5, e6])
      | (refine VW.ret (VRet.fin ?_); simp [la, lb, hv, hw, hr, hr', hq, e1, e2, e3, e4, e5, e6])
      | refine VW.condT rfl ?_
      | refine VW.condF rfl ?_
      | (refine VW.condB rfl (fun h => ?_) (fun h => ?_))
      | (refine VW.skip ?_; simp only [vthen, vblock])
      | refine VW.block ?_
      | (refine VW.exit ?_; simp only [vthen, vblock, if_true])
  | some v =>
    have hres : storeA ⟨need, price, m, y, st, f, l⟩ slot store logs = (v, 0) := by simp [storeA, hv, hr, hq]
    have hnn : ¬ v < 0 := by
      obtain ⟨u1, u2, u3, u4, u5, u6, u7, u8, u9, u10, u11, u12, u13, u14, u15⟩ := valid_inv hv
      obtain ⟨r1, r2, _⟩ := inR_inv hr
      simp only at r2 u14 u15 u10
      obtain ⟨w1, w2, w3, w4, w5⟩ := aft_wraps hv hr (List.getElem?_eq_getElem r2)
      rw [w5] at hq
      simp only at hq
      split at hq
      · cases hq
      · rename_i hh
        cases hq
        have p1 := Int.mul_nonneg (show 0 ≤ store + logs * y - need[slot.toNat] by omega) u14
        have p2 : (store + logs * y - need[slot.toNat]) * l ≤ (store + logs * y - need[slot.toNat]) * 100 := Int.mul_le_mul_of_nonneg_left u15 (by omega)
        rw [Int.tdiv_eq_ediv_of_nonneg p1]
        split <;> omega
    rw [hres]
    repeat' first
      | refine VW.seq ?_
      | (refine VW.evalK (C := [(18, validF), (56, afterF)]) ⟨ok18, ok56, trivial⟩ (by kernel_rfl) ?_; simp [la, lb, hv, hw, hr, hr', hq, hnn, e1, e2, e3, e4, e5, e6])
      | (refine VW.evalDK (C := [(18, validF), (56, afterF)]) ⟨ok18, ok56, trivial⟩ mixed (by kernel_rfl) ?_; simp [la, lb, hv, hw, hr, hr', hq, hnn, e1, e2, e3, e4, e5, e6])
      | (refine VW.ret (VRet.fin ?_); simp [la, lb, hv, hw, hr, hr', hq, hnn, e1, e2, e3, e4, e5, e6])
      | refine VW.condT rfl ?_
      | refine VW.condF rfl ?_
      | (refine VW.condB rfl (fun h => ?_) (fun h => ?_))
      | (refine VW.skip ?_; simp only [vthen, vblock])
      | refine VW.block ?_
      | (refine VW.exit ?_; simp only [vthen, vblock, if_true])
end Go.Proofs.Yteggncgiflgopaa
