/- Contracts of the functions that the law FnExactValidAct reaches. -/
import Derived.Test.YtfklolheleffpaaVxEnd
import Derived.Test.YtfklolheleffpaaProg
import Derived.KernelRfl
namespace Go.Proofs.Ytfklolheleffpaa
open Go.RowKit Go.VL
set_option linter.unusedSimpArgs false
set_option linter.unusedVariables false
@[simp] theorem tk_2 : tk Try.prog 2 = .int .i64 := by kernel_rfl
@[simp] theorem co_2 : Try.prog.cellsOf 2 = 1 := by kernel_rfl
@[simp] theorem cz_2 : csz Try.prog 2 = 1 := by kernel_rfl
@[simp] theorem ag_2 : aggB Try.prog 2 = false := by kernel_rfl
@[simp] theorem ze_2 : zeroV Try.prog 2 = some [.int .i64 0] := by kernel_rfl
@[simp] theorem by_2 : Try.prog.bytesOf 2 = 8 := by kernel_rfl
@[simp] theorem tk_4 : tk Try.prog 4 = .bool := by kernel_rfl
@[simp] theorem co_4 : Try.prog.cellsOf 4 = 1 := by kernel_rfl
@[simp] theorem cz_4 : csz Try.prog 4 = 1 := by kernel_rfl
@[simp] theorem ag_4 : aggB Try.prog 4 = false := by kernel_rfl
@[simp] theorem ze_4 : zeroV Try.prog 4 = some [.bool false] := by kernel_rfl
@[simp] theorem by_4 : Try.prog.bytesOf 4 = 1 := by kernel_rfl
@[simp] theorem tk_29 : tk Try.prog 29 = .struct [(0, 1, false), (1, 1, false), (2, 1, false)] := by kernel_rfl
@[simp] theorem co_29 : Try.prog.cellsOf 29 = 3 := by kernel_rfl
@[simp] theorem cz_29 : csz Try.prog 29 = 3 := by kernel_rfl
@[simp] theorem ag_29 : aggB Try.prog 29 = true := by kernel_rfl
@[simp] theorem ze_29 : zeroV Try.prog 29 = some [.int .i64 0, .int .i64 0, .int .i64 0] := by kernel_rfl
@[simp] theorem by_29 : Try.prog.bytesOf 29 = 24 := by kernel_rfl
@[simp] theorem tk_31 : tk Try.prog 31 = .struct [(0, 1, false), (1, 1, false), (2, 1, false)] := by kernel_rfl
@[simp] theorem co_31 : Try.prog.cellsOf 31 = 3 := by kernel_rfl
@[simp] theorem cz_31 : csz Try.prog 31 = 3 := by kernel_rfl
@[simp] theorem ag_31 : aggB Try.prog 31 = true := by kernel_rfl
@[simp] theorem ze_31 : zeroV Try.prog 31 = some [.int .i64 0, .int .i64 0, .int .i64 0] := by kernel_rfl
@[simp] theorem by_31 : Try.prog.bytesOf 31 = 24 := by kernel_rfl
@[simp] theorem tk_45 : tk Try.prog 45 = .ptr 31 := by kernel_rfl
@[simp] theorem co_45 : Try.prog.cellsOf 45 = 1 := by kernel_rfl
@[simp] theorem cz_45 : csz Try.prog 45 = 1 := by kernel_rfl
@[simp] theorem ag_45 : aggB Try.prog 45 = false := by kernel_rfl
@[simp] theorem ze_45 : zeroV Try.prog 45 = some [.pointer none] := by kernel_rfl
@[simp] theorem by_45 : Try.prog.bytesOf 45 = 8 := by kernel_rfl
theorem mixed : Try.prog.follows .mixedOrders = true := by kernel_rfl

@[simp] def l00In : List V → Option V
  | [.i .i64 n, .i .i64 lo, .i .i64 hi] => some (.b (decide (lo ≤ n) && decide (n ≤ hi)))
  | _ => none
@[simp] def l06Two : List V → Option V
  | [.i .i64 n] => some (.b (n == 1 || n == 5 || n == 6 || n == 8))
  | _ => none
@[simp] def act3 : List V → Option V
  | [.agg [.i .i64 a, .i .i64 b, .i .i64 c]] => some (.agg [.i .i64 a, .i .i64 b, .i .i64 c])
  | _ => none
def actB (a b c : Int) : Bool := decide (1 ≤ a ∧ a ≤ 9 ∧ 0 ≤ b ∧ b ≤ 999 ∧ 0 ≤ c ∧ c ≤ 999 ∧ (c = 0 ∨ a = 1 ∨ a = 5 ∨ a = 6 ∨ a = 8))
@[simp] def actOk : List V → Option V
  | [.agg [.i .i64 a, .i .i64 b, .i .i64 c]] => some (.b (actB a b c))
  | _ => none
@[simp] def actOkP : List V → Option V
  | [.cptr [.i .i64 a, .i .i64 b, .i .i64 c] 0] => some (.b (actB a b c))
  | _ => none
set_option maxRecDepth 100000 in
/- loop.example/g01229/spec.l00In -/
theorem ok26 : Tells Try.prog 26 l00In := by
  refine ⟨by kernel_rfl, fun args r h => ?_⟩
  unfold l00In at h
  split at h <;> cases h
  refine VCalls.of Try.func26 rfl rfl rfl ?_
  simp only [List.reduceReplicate, List.cons_append, List.nil_append, List.length_cons, List.length_nil, Nat.reduceAdd, Nat.reduceSub]
  repeat' first
    | refine VW.seq ?_
    | (refine VW.evalK (C := []) trivial (by kernel_rfl) ?_; simp)
    | (refine VW.evalDK (C := []) trivial mixed (by kernel_rfl) ?_; simp)
    | (refine VW.ret (VRet.fin ?_); simp)
    | (refine VW.condB rfl (fun h => ?_) (fun h => ?_))
    | (refine VW.skip ?_; simp only [vthen, vblock])
    | refine VW.block ?_
    | (refine VW.exit ?_; simp only [vthen, vblock, if_true])
  all_goals simp_all
set_option maxRecDepth 100000 in
/- loop.example/g01229/spec.l06Two -/
theorem ok27 : Tells Try.prog 27 l06Two := by
  refine ⟨by kernel_rfl, fun args r h => ?_⟩
  unfold l06Two at h
  split at h <;> cases h
  refine VCalls.of Try.func27 rfl rfl rfl ?_
  simp only [List.reduceReplicate, List.cons_append, List.nil_append, List.length_cons, List.length_nil, Nat.reduceAdd, Nat.reduceSub]
  repeat' first
    | refine VW.seq ?_
    | (refine VW.evalK (C := []) trivial (by kernel_rfl) ?_; simp)
    | (refine VW.evalDK (C := []) trivial mixed (by kernel_rfl) ?_; simp)
    | (refine VW.ret (VRet.fin ?_); simp)
    | (refine VW.condB rfl (fun h => ?_) (fun h => ?_))
    | (refine VW.skip ?_; simp only [vthen, vblock])
    | refine VW.block ?_
    | (refine VW.exit ?_; simp only [vthen, vblock, if_true])
  all_goals simp_all
set_option maxRecDepth 100000 in
/- loop.example/g01229/impl.hasB -/
theorem ok21 : Tells Try.prog 21 l06Two := by
  refine ⟨by kernel_rfl, fun args r h => ?_⟩
  unfold l06Two at h
  split at h <;> cases h
  refine VCalls.of Try.func21 rfl rfl rfl ?_
  simp only [List.reduceReplicate, List.cons_append, List.nil_append, List.length_cons, List.length_nil, Nat.reduceAdd, Nat.reduceSub]
  repeat' first
    | refine VW.seq ?_
    | (refine VW.evalK (C := []) trivial (by kernel_rfl) ?_; simp)
    | (refine VW.evalDK (C := []) trivial mixed (by kernel_rfl) ?_; simp)
    | (refine VW.ret (VRet.fin ?_); simp)
    | (refine VW.condB rfl (fun h => ?_) (fun h => ?_))
    | (refine VW.skip ?_; simp only [vthen, vblock])
    | refine VW.block ?_
    | (refine VW.exit ?_; simp only [vthen, vblock, if_true])
  all_goals simp_all
set_option maxRecDepth 100000 in
/- loop.example/g01229/laws.toAct -/
theorem ok11 : Tells Try.prog 11 act3 := by
  refine ⟨by kernel_rfl, fun args r h => ?_⟩
  unfold act3 at h
  split at h <;> cases h
  refine VCalls.of Try.func11 rfl rfl rfl ?_
  simp only [List.reduceReplicate, List.cons_append, List.nil_append, List.length_cons, List.length_nil, Nat.reduceAdd, Nat.reduceSub]
  repeat' first
    | refine VW.seq ?_
    | (refine VW.evalK (C := []) trivial (by kernel_rfl) ?_; simp)
    | (refine VW.evalDK (C := []) trivial mixed (by kernel_rfl) ?_; simp)
    | (refine VW.ret (VRet.fin ?_); simp)
    | (refine VW.condB rfl (fun h => ?_) (fun h => ?_))
    | (refine VW.skip ?_; simp only [vthen, vblock])
    | refine VW.block ?_
    | (refine VW.exit ?_; simp only [vthen, vblock, if_true])
  all_goals simp_all
set_option maxRecDepth 100000 in
/- loop.example/g01229/spec.l06Act -/
theorem ok20 : Tells Try.prog 20 actOkP := by
  refine ⟨by kernel_rfl, fun args r h => ?_⟩
  unfold actOkP at h
  split at h <;> cases h
  refine VCalls.of Try.func20 rfl rfl rfl ?_
  simp only [List.reduceReplicate, List.cons_append, List.nil_append, List.length_cons, List.length_nil, Nat.reduceAdd, Nat.reduceSub]
  repeat' first
    | refine VW.seq ?_
    | (refine VW.evalK (C := [(26, l00In), (27, l06Two)]) ⟨ok26, ok27, trivial⟩ (by kernel_rfl) ?_; simp)
    | (refine VW.evalDK (C := [(26, l00In), (27, l06Two)]) ⟨ok26, ok27, trivial⟩ mixed (by kernel_rfl) ?_; simp)
    | (refine VW.ret (VRet.fin ?_); simp)
    | (refine VW.condB rfl (fun h => ?_) (fun h => ?_))
    | (refine VW.skip ?_; simp only [vthen, vblock])
    | refine VW.block ?_
    | (refine VW.exit ?_; simp only [vthen, vblock, if_true])
  all_goals first | rfl | (rw [Bool.eq_iff_iff]; simp only [actB, Bool.and_eq_true, Bool.or_eq_true, decide_eq_true_eq, beq_iff_eq]; omega)
set_option maxRecDepth 100000 in
/- loop.example/g01229/spec.ValidAct -/
theorem ok10 : Tells Try.prog 10 actOk := by
  refine ⟨by kernel_rfl, fun args r h => ?_⟩
  unfold actOk at h
  split at h <;> cases h
  refine VCalls.of Try.func10 rfl rfl rfl ?_
  simp only [List.reduceReplicate, List.cons_append, List.nil_append, List.length_cons, List.length_nil, Nat.reduceAdd, Nat.reduceSub]
  repeat' first
    | refine VW.seq ?_
    | (refine VW.evalK (C := [(20, actOkP)]) ⟨ok20, trivial⟩ (by kernel_rfl) ?_; simp)
    | (refine VW.evalDK (C := [(20, actOkP)]) ⟨ok20, trivial⟩ mixed (by kernel_rfl) ?_; simp)
    | (refine VW.ret (VRet.fin ?_); simp)
    | (refine VW.condB rfl (fun h => ?_) (fun h => ?_))
    | (refine VW.skip ?_; simp only [vthen, vblock])
    | refine VW.block ?_
    | (refine VW.exit ?_; simp only [vthen, vblock, if_true])
  all_goals first | rfl | (rw [Bool.eq_iff_iff]; simp only [actB, Bool.and_eq_true, Bool.or_eq_true, decide_eq_true_eq, beq_iff_eq]; omega)
set_option maxRecDepth 100000 in
/- loop.example/g01229/impl.ValidAct -/
theorem ok12 : Tells Try.prog 12 actOk := by
  refine ⟨by kernel_rfl, fun args r h => ?_⟩
  unfold actOk at h
  split at h <;> cases h
  refine VCalls.of Try.func12 rfl rfl rfl ?_
  simp only [List.reduceReplicate, List.cons_append, List.nil_append, List.length_cons, List.length_nil, Nat.reduceAdd, Nat.reduceSub]
  repeat' first
    | refine VW.seq ?_
    | (refine VW.evalK (C := [(21, l06Two)]) ⟨ok21, trivial⟩ (by kernel_rfl) ?_; simp)
    | (refine VW.evalDK (C := [(21, l06Two)]) ⟨ok21, trivial⟩ mixed (by kernel_rfl) ?_; simp)
    | (refine VW.ret (VRet.fin ?_); simp)
    | (refine VW.condB rfl (fun h => ?_) (fun h => ?_))
    | (refine VW.skip ?_; simp only [vthen, vblock])
    | refine VW.block ?_
    | (refine VW.exit ?_; simp only [vthen, vblock, if_true])
  all_goals first | rfl | (rw [Bool.eq_iff_iff]; simp only [actB, Bool.and_eq_true, Bool.or_eq_true, decide_eq_true_eq, beq_iff_eq]; omega)

theorem own : ownKnob Try.prog.godebug = none := by kernel_rfl
theorem laidOut : laidOutB Try.prog = true := by kernel_rfl
end Go.Proofs.Ytfklolheleffpaa
