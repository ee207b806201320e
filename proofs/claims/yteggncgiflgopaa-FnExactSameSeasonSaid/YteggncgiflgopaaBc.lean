/- SameSeason: the program's and the reference's. -/
import Derived.Test.YteggncgiflgopaaBa
import Derived.KernelRfl
namespace Go.Proofs.Yteggncgiflgopaa
open Go.RowKit Go.VL
set_option linter.unusedSimpArgs false
set_option linter.unusedVariables false

def sm (xs ys : List Int) : Bool := decide (xs = ys)
theorem sm_drop {xs ys : List Int} {i : Nat} (h : i < xs.length) (h' : i < ys.length) : sm (xs.drop i) (ys.drop i) = (decide (xs[i] = ys[i]) && sm (xs.drop (i + 1)) (ys.drop (i + 1))) := by
  rw [Bool.eq_iff_iff, List.drop_eq_getElem_cons h, List.drop_eq_getElem_cons h']
  simp only [sm, Bool.and_eq_true, decide_eq_true_eq, List.cons.injEq]
open Classical in
@[simp] noncomputable def sameI : List V → Option V
  | [.sl 1 a, .sl 1 b] => if One a ∧ One b then some (.b (sm (dec a) (dec b))) else none
  | _ => none
open Classical in
@[simp] noncomputable def sameS : List V → Option V
  | [.agg [.sl 1 a, .sl 1 b, .i .i64 m, .i .i64 y, .i .i64 st, .i .i64 f, .i .i64 l], .agg [.sl 1 a2, .sl 1 b2, .i .i64 m2, .i .i64 y2, .i .i64 st2, .i .i64 f2, .i .i64 l2]] => if Two a b ∧ Two a2 b2 then some (.b (sm (dec a) (dec a2) && sm (dec b) (dec b2) && m == m2 && y == y2 && st == st2 && f == f2 && l == l2)) else none
  | _ => none
set_option maxRecDepth 100000 in
set_option maxHeartbeats 4000000 in
/- loop.example/g01229/spec.l00Same -/
theorem ok52 : Tells Try.prog 52 sameI := by
  refine ⟨by kernel_rfl, fun args r h => ?_⟩
  unfold sameI at h
  split at h
  rotate_left
  · cases h
  rename_i a b
  split at h
  rotate_left
  · cases h
  rename_i hE
  cases h
  obtain ⟨⟨ha, la⟩, ⟨hb, lb⟩⟩ := hE
  obtain ⟨xs, rfl⟩ := ha.get
  obtain ⟨ys, rfl⟩ := hb.get
  simp only [ints_length, dec_ints] at *
  refine VCalls.of Try.func52 rfl rfl rfl ?_
  simp only [List.reduceReplicate, List.cons_append, List.nil_append, List.length_cons, List.length_nil, Nat.reduceAdd, Nat.reduceSub]
  by_cases hlen : xs.length = ys.length
  rotate_left
  · have hne : ((xs.length : Int) != (ys.length : Int)) = true := by simp; omega
    have hxy : sm xs ys = false := by simp only [sm, decide_eq_false_iff_not]; exact fun h => hlen (by rw [h])
    repeat' first
      | refine VW.seq ?_
      | (refine VW.evalK (C := []) trivial (by kernel_rfl) ?_; simp [hne, hlen, hxy])
      | (refine VW.evalDK (C := []) trivial mixed (by kernel_rfl) ?_; simp [hne, hlen, hxy])
      | (refine VW.ret (VRet.fin ?_); simp [hne, hlen, hxy])
      | refine VW.condT rfl ?_
      | refine VW.condF rfl ?_
      | (refine VW.condB rfl (fun h => ?_) (fun h => ?_))
      | (refine VW.skip ?_; simp only [vthen, vblock])
      | refine VW.block ?_
      | (refine VW.exit ?_; simp only [vthen, vblock, if_true])
  repeat' first
    | refine VW.seq ?_
    | (refine VW.evalK (C := []) trivial (by kernel_rfl) ?_; simp [hlen])
    | (refine VW.evalDK (C := []) trivial mixed (by kernel_rfl) ?_; simp [hlen])
    | (refine VW.ret (VRet.fin ?_); simp [hlen])
    | refine VW.condT rfl ?_
    | refine VW.condF rfl ?_
    | (refine VW.condB rfl (fun h => ?_) (fun h => ?_))
    | (refine VW.skip ?_; simp only [vthen, vblock])
    | refine VW.block ?_
    | (refine VW.exit ?_; simp only [vthen, vblock, if_true])
  refine VW.loop (fun n s => ∃ i, i ≤ xs.length ∧ sm xs ys = sm (xs.drop i) (ys.drop i) ∧ n = xs.length - i ∧ s = { t := [.sl 1 (ints xs), .sl 1 (ints ys), .any, .any, .b false, .i .i64 ((i : Nat) : Int), .any, .any, .any, .any, .any, .any, .any, .any, .any, .any, .any, .any, .any, .any, .any, .any, .any, .any, .any, .any], m := [] }) (n0 := xs.length) (s0 := { t := [.sl 1 (ints xs), .sl 1 (ints ys), .any, .any, .b false, .i .i64 ((0 : Nat) : Int), .any, .any, .any, .any, .any, .any, .any, .any, .any, .any, .any, .any, .any, .any, .any, .any, .any, .any, .any, .any], m := [] }) (Ent.to 0 ?_ ?_ ?_ ?_ ?_) ⟨0, by omega, by simp, by omega, rfl⟩ ?_
  · simp [fgt, hlen]
  · simp
  · simp
  · simp [bndT, bndV]
  · simp [bndM, ints_bnd, bndV]
  intro n s ⟨i, hi, hl, hn, hs⟩
  subst hs
  rw [hl]
  rcases Nat.lt_or_ge i xs.length with hlt | hge
  · have hlt' : i < ys.length := by omega
    have hk : xs[i]? = some xs[i] := List.getElem?_eq_getElem hlt
    have hk' : ys[i]? = some ys[i] := List.getElem?_eq_getElem hlt'
    have hw := succ64 (i := i) (by omega)
    have hd := sm_drop hlt hlt'
    by_cases hx : xs[i] = ys[i]
    · have hd' : sm (xs.drop i) (ys.drop i) = sm (xs.drop (i + 1)) (ys.drop (i + 1)) := by rw [hd, decide_eq_true hx, Bool.true_and]
      repeat' first
        | refine VW.seq ?_
        | (refine VW.evalK (C := []) trivial (by kernel_rfl) ?_; simp [hlt, hlt', hk, hk', hw, hx])
        | (refine VW.evalDK (C := []) trivial mixed (by kernel_rfl) ?_; simp [hlt, hlt', hk, hk', hw, hx])
        | (refine VW.ret (VRet.fin ?_); simp [hlt, hlt', hk, hk', hw, hx])
        | refine VW.condT rfl ?_
        | refine VW.condF rfl ?_
        | (refine VW.condB rfl (fun h => ?_) (fun h => ?_))
        | (refine VW.skip ?_; simp only [vthen, vblock])
        | refine VW.block ?_
        | (refine VW.exit ?_; simp only [vthen, vblock, if_true])
      refine ⟨xs.length - (i + 1), { t := [.sl 1 (ints xs), .sl 1 (ints ys), .any, .any, .b false, .i .i64 (((i + 1) : Nat) : Int), .any, .any, .any, .any, .any, .any, .any, .any, .any, .any, .any, .any, .any, .any, .any, .any, .any, .any, .any, .any], m := [] }, Ent.to 0 ?_ ?_ ?_ ?_ ?_, by omega, i + 1, by omega, by first | exact hl.trans hd' | exact hd', rfl, rfl⟩
      · simp [fgt]
      · simp
      · simp
      · simp [bndT, bndV]
      · simp [bndM, ints_bnd, bndV]
    · have hx2 : (xs[i] != ys[i]) = true := by simpa using hx
      have hd' : sm (xs.drop i) (ys.drop i) = false := by rw [hd, decide_eq_false hx, Bool.false_and]
      rw [hd']
      repeat' first
        | refine VW.seq ?_
        | (refine VW.evalK (C := []) trivial (by kernel_rfl) ?_; simp [hlt, hlt', hk, hk', hw, hx, hx2])
        | (refine VW.evalDK (C := []) trivial mixed (by kernel_rfl) ?_; simp [hlt, hlt', hk, hk', hw, hx, hx2])
        | (refine VW.ret (VRet.fin ?_); simp [hlt, hlt', hk, hk', hw, hx, hx2])
        | refine VW.condT rfl ?_
        | refine VW.condF rfl ?_
        | (refine VW.condB rfl (fun h => ?_) (fun h => ?_))
        | (refine VW.skip ?_; simp only [vthen, vblock])
        | refine VW.block ?_
        | (refine VW.exit ?_; simp only [vthen, vblock, if_true])
  · obtain rfl : i = xs.length := by omega
    have hz : sm (xs.drop xs.length) (ys.drop xs.length) = true := by
      rw [List.drop_eq_nil_of_le (Nat.le_refl _), List.drop_eq_nil_of_le (by omega)]
      rfl
    rw [hz]
    repeat' first
      | refine VW.seq ?_
      | (refine VW.evalK (C := []) trivial (by kernel_rfl) ?_; simp)
      | (refine VW.evalDK (C := []) trivial mixed (by kernel_rfl) ?_; simp)
      | (refine VW.ret (VRet.fin ?_); simp)
      | refine VW.condT rfl ?_
      | refine VW.condF rfl ?_
      | (refine VW.condB rfl (fun h => ?_) (fun h => ?_))
      | (refine VW.skip ?_; simp only [vthen, vblock])
      | refine VW.block ?_
      | (refine VW.exit ?_; simp only [vthen, vblock, if_true])
set_option maxRecDepth 100000 in
set_option maxHeartbeats 4000000 in
/- slices.Equal[[]int64,int64] -/
theorem ok53 : Tells Try.prog 53 sameI := by
  refine ⟨by kernel_rfl, fun args r h => ?_⟩
  unfold sameI at h
  split at h
  rotate_left
  · cases h
  rename_i a b
  split at h
  rotate_left
  · cases h
  rename_i hE
  cases h
  obtain ⟨⟨ha, la⟩, ⟨hb, lb⟩⟩ := hE
  obtain ⟨xs, rfl⟩ := ha.get
  obtain ⟨ys, rfl⟩ := hb.get
  simp only [ints_length, dec_ints] at *
  refine VCalls.of Try.func53 rfl rfl rfl ?_
  simp only [List.reduceReplicate, List.cons_append, List.nil_append, List.length_cons, List.length_nil, Nat.reduceAdd, Nat.reduceSub]
  by_cases hlen : xs.length = ys.length
  rotate_left
  · have hne : ((xs.length : Int) != (ys.length : Int)) = true := by simp; omega
    have hxy : sm xs ys = false := by simp only [sm, decide_eq_false_iff_not]; exact fun h => hlen (by rw [h])
    repeat' first
      | refine VW.seq ?_
      | (refine VW.evalK (C := []) trivial (by kernel_rfl) ?_; simp [hne, hlen, hxy])
      | (refine VW.evalDK (C := []) trivial mixed (by kernel_rfl) ?_; simp [hne, hlen, hxy])
      | (refine VW.ret (VRet.fin ?_); simp [hne, hlen, hxy])
      | refine VW.condT rfl ?_
      | refine VW.condF rfl ?_
      | (refine VW.condB rfl (fun h => ?_) (fun h => ?_))
      | (refine VW.skip ?_; simp only [vthen, vblock])
      | refine VW.block ?_
      | (refine VW.exit ?_; simp only [vthen, vblock, if_true])
  repeat' first
    | refine VW.seq ?_
    | (refine VW.evalK (C := []) trivial (by kernel_rfl) ?_; simp [hlen])
    | (refine VW.evalDK (C := []) trivial mixed (by kernel_rfl) ?_; simp [hlen])
    | (refine VW.ret (VRet.fin ?_); simp [hlen])
    | refine VW.condT rfl ?_
    | refine VW.condF rfl ?_
    | (refine VW.condB rfl (fun h => ?_) (fun h => ?_))
    | (refine VW.skip ?_; simp only [vthen, vblock])
    | refine VW.block ?_
    | (refine VW.exit ?_; simp only [vthen, vblock, if_true])
  refine VW.loop (fun n s => ∃ i, i ≤ xs.length ∧ sm xs ys = sm (xs.drop i) (ys.drop i) ∧ n = xs.length - i ∧ s = { t := [.sl 1 (ints xs), .sl 1 (ints ys), .any, .any, .b false, .any, .any, .any, .any, .any, .any, .any, .i .i64 (xs.length : Int), .i .i64 ((i : Nat) : Int), .any, .any, .any, .any, .any, .any, .any, .any, .any, .any, .any, .any], m := [] }) (n0 := xs.length) (s0 := { t := [.sl 1 (ints xs), .sl 1 (ints ys), .any, .any, .b false, .any, .any, .any, .any, .any, .any, .any, .i .i64 (xs.length : Int), .i .i64 ((0 : Nat) : Int), .any, .any, .any, .any, .any, .any, .any, .any, .any, .any, .any, .any], m := [] }) (Ent.to 0 ?_ ?_ ?_ ?_ ?_) ⟨0, by omega, by simp, by omega, rfl⟩ ?_
  · simp [fgt, hlen]
  · simp
  · simp
  · simp [bndT, bndV]
  · simp [bndM, ints_bnd, bndV]
  intro n s ⟨i, hi, hl, hn, hs⟩
  subst hs
  rw [hl]
  rcases Nat.lt_or_ge i xs.length with hlt | hge
  · have hlt' : i < ys.length := by omega
    have hk : xs[i]? = some xs[i] := List.getElem?_eq_getElem hlt
    have hk' : ys[i]? = some ys[i] := List.getElem?_eq_getElem hlt'
    have hw := succ64 (i := i) (by omega)
    have hd := sm_drop hlt hlt'
    by_cases hx : xs[i] = ys[i]
    · have hd' : sm (xs.drop i) (ys.drop i) = sm (xs.drop (i + 1)) (ys.drop (i + 1)) := by rw [hd, decide_eq_true hx, Bool.true_and]
      repeat' first
        | refine VW.seq ?_
        | (refine VW.evalK (C := []) trivial (by kernel_rfl) ?_; simp [hlt, hlt', hk, hk', hw, hx])
        | (refine VW.evalDK (C := []) trivial mixed (by kernel_rfl) ?_; simp [hlt, hlt', hk, hk', hw, hx])
        | (refine VW.ret (VRet.fin ?_); simp [hlt, hlt', hk, hk', hw, hx])
        | refine VW.condT rfl ?_
        | refine VW.condF rfl ?_
        | (refine VW.condB rfl (fun h => ?_) (fun h => ?_))
        | (refine VW.skip ?_; simp only [vthen, vblock])
        | refine VW.block ?_
        | (refine VW.exit ?_; simp only [vthen, vblock, if_true])
      refine ⟨xs.length - (i + 1), { t := [.sl 1 (ints xs), .sl 1 (ints ys), .any, .any, .b false, .any, .any, .any, .any, .any, .any, .any, .i .i64 (xs.length : Int), .i .i64 (((i + 1) : Nat) : Int), .any, .any, .any, .any, .any, .any, .any, .any, .any, .any, .any, .any], m := [] }, Ent.to 0 ?_ ?_ ?_ ?_ ?_, by omega, i + 1, by omega, by first | exact hl.trans hd' | exact hd', rfl, rfl⟩
      · simp [fgt]
      · simp
      · simp
      · simp [bndT, bndV]
      · simp [bndM, ints_bnd, bndV]
    · have hx2 : (xs[i] != ys[i]) = true := by simpa using hx
      have hd' : sm (xs.drop i) (ys.drop i) = false := by rw [hd, decide_eq_false hx, Bool.false_and]
      rw [hd']
      repeat' first
        | refine VW.seq ?_
        | (refine VW.evalK (C := []) trivial (by kernel_rfl) ?_; simp [hlt, hlt', hk, hk', hw, hx, hx2])
        | (refine VW.evalDK (C := []) trivial mixed (by kernel_rfl) ?_; simp [hlt, hlt', hk, hk', hw, hx, hx2])
        | (refine VW.ret (VRet.fin ?_); simp [hlt, hlt', hk, hk', hw, hx, hx2])
        | refine VW.condT rfl ?_
        | refine VW.condF rfl ?_
        | (refine VW.condB rfl (fun h => ?_) (fun h => ?_))
        | (refine VW.skip ?_; simp only [vthen, vblock])
        | refine VW.block ?_
        | (refine VW.exit ?_; simp only [vthen, vblock, if_true])
  · obtain rfl : i = xs.length := by omega
    have hz : sm (xs.drop xs.length) (ys.drop xs.length) = true := by
      rw [List.drop_eq_nil_of_le (Nat.le_refl _), List.drop_eq_nil_of_le (by omega)]
      rfl
    rw [hz]
    repeat' first
      | refine VW.seq ?_
      | (refine VW.evalK (C := []) trivial (by kernel_rfl) ?_; simp)
      | (refine VW.evalDK (C := []) trivial mixed (by kernel_rfl) ?_; simp)
      | (refine VW.ret (VRet.fin ?_); simp)
      | refine VW.condT rfl ?_
      | refine VW.condF rfl ?_
      | (refine VW.condB rfl (fun h => ?_) (fun h => ?_))
      | (refine VW.skip ?_; simp only [vthen, vblock])
      | refine VW.block ?_
      | (refine VW.exit ?_; simp only [vthen, vblock, if_true])
set_option maxRecDepth 100000 in
set_option maxHeartbeats 4000000 in
/- loop.example/g01229/spec.SameSeason -/
theorem ok20 : Tells Try.prog 20 sameS := by
  refine ⟨by kernel_rfl, fun args r h => ?_⟩
  unfold sameS at h
  split at h
  rotate_left
  · cases h
  rename_i a b m y st f l a2 b2 m2 y2 st2 f2 l2
  split at h
  rotate_left
  · cases h
  rename_i hE
  cases h
  obtain ⟨⟨ha, hb, la, lb⟩, ⟨ha2, hb2, la2, lb2⟩⟩ := hE
  obtain ⟨need, rfl⟩ := ha.get
  obtain ⟨price, rfl⟩ := hb.get
  obtain ⟨need2, rfl⟩ := ha2.get
  obtain ⟨price2, rfl⟩ := hb2.get
  simp only [ints_length, dec_ints] at *
  refine VCalls.of Try.func20 rfl rfl rfl ?_
  simp only [List.reduceReplicate, List.cons_append, List.nil_append, List.length_cons, List.length_nil, Nat.reduceAdd, Nat.reduceSub]
  repeat' first
    | refine VW.seq ?_
    | (refine VW.evalK (C := [(52, sameI)]) ⟨ok52, trivial⟩ (by kernel_rfl) ?_; simp [la, lb, la2, lb2])
    | (refine VW.evalDK (C := [(52, sameI)]) ⟨ok52, trivial⟩ mixed (by kernel_rfl) ?_; simp [la, lb, la2, lb2])
    | (refine VW.ret (VRet.fin ?_); simp [la, lb, la2, lb2])
    | refine VW.condT rfl ?_
    | refine VW.condF rfl ?_
    | (refine VW.condB rfl (fun h => ?_) (fun h => ?_))
    | (refine VW.skip ?_; simp only [vthen, vblock])
    | refine VW.block ?_
    | (refine VW.exit ?_; simp only [vthen, vblock, if_true])
set_option maxRecDepth 100000 in
set_option maxHeartbeats 4000000 in
/- loop.example/g01229/impl.SameSeason -/
theorem ok21 : Tells Try.prog 21 sameS := by
  refine ⟨by kernel_rfl, fun args r h => ?_⟩
  unfold sameS at h
  split at h
  rotate_left
  · cases h
  rename_i a b m y st f l a2 b2 m2 y2 st2 f2 l2
  split at h
  rotate_left
  · cases h
  rename_i hE
  cases h
  obtain ⟨⟨ha, hb, la, lb⟩, ⟨ha2, hb2, la2, lb2⟩⟩ := hE
  obtain ⟨need, rfl⟩ := ha.get
  obtain ⟨price, rfl⟩ := hb.get
  obtain ⟨need2, rfl⟩ := ha2.get
  obtain ⟨price2, rfl⟩ := hb2.get
  simp only [ints_length, dec_ints] at *
  refine VCalls.of Try.func21 rfl rfl rfl ?_
  simp only [List.reduceReplicate, List.cons_append, List.nil_append, List.length_cons, List.length_nil, Nat.reduceAdd, Nat.reduceSub]
  repeat' first
    | refine VW.seq ?_
    | (refine VW.evalK (C := [(53, sameI)]) ⟨ok53, trivial⟩ (by kernel_rfl) ?_; simp [la, lb, la2, lb2])
    | (refine VW.evalDK (C := [(53, sameI)]) ⟨ok53, trivial⟩ mixed (by kernel_rfl) ?_; simp [la, lb, la2, lb2])
    | (refine VW.ret (VRet.fin ?_); simp [la, lb, la2, lb2])
    | refine VW.condT rfl ?_
    | refine VW.condF rfl ?_
    | (refine VW.condB rfl (fun h => ?_) (fun h => ?_))
    | (refine VW.skip ?_; simp only [vthen, vblock])
    | refine VW.block ?_
    | (refine VW.exit ?_; simp only [vthen, vblock, if_true])
end Go.Proofs.Yteggncgiflgopaa
