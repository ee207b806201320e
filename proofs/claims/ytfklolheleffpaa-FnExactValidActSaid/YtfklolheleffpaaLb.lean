/- The law FnExactValidAct holds for every input: the program's function returns what the reference's returns. No conditions. -/
import Derived.Test.YtfklolheleffpaaAb
import Derived.Test.YtfklolheleffpaaRows
import Derived.ProofKit
namespace Go.Proofs.Ytfklolheleffpaa
open Go.ChangeShapes Go.WideShapes Go.ChangeAt Go.RowKit Go.VL
set_option linter.unusedVariables false
set_option linter.unusedSimpArgs false

theorem shp_29 : shp Try.prog 12 29 = some (.seq (.int .i64) (.seq (.int .i64) (.seq (.int .i64) (.unit)))) := by kernel_rfl
set_option maxRecDepth 100000 in
theorem FnExactValidAct_walk (xs : List V) (h : OkAll Try.prog [29] xs) : VCalls Try.prog 4 xs (fun r => r = .b true) := by
  obtain ⟨y0, ys0, rfl, h0, k0⟩ := h.cons_inv
  obtain rfl := k0.nil_inv
  obtain ⟨sh0, s0, h0⟩ := h0
  rw [shp_29] at s0
  cases s0
  rw [ag_29] at h0
  obtain ⟨_, rfl, _, _, rfl, ⟨a_0, rfl, ha_0⟩, ⟨_, _, rfl, ⟨a_1, rfl, ha_1⟩, ⟨_, _, rfl, ⟨a_2, rfl, ha_2⟩, rfl⟩⟩⟩ := h0
  refine VCalls.of Try.func4 rfl rfl rfl ?_
  simp only [List.reduceReplicate, List.cons_append, List.nil_append, List.length_cons, List.length_nil, Nat.reduceAdd, Nat.reduceSub]
  repeat' first
    | refine VW.seq ?_
    | (refine VW.evalK (C := [(10, actOk), (11, act3), (12, actOk)]) ⟨ok10, ok11, ok12, trivial⟩ (by kernel_rfl) ?_; simp)
    | (refine VW.evalDK (C := [(10, actOk), (11, act3), (12, actOk)]) ⟨ok10, ok11, ok12, trivial⟩ mixed (by kernel_rfl) ?_; simp)
    | (refine VW.ret (VRet.fin ?_); simp)
    | (refine VW.condB rfl (fun h => ?_) (fun h => ?_))
    | (refine VW.skip ?_; simp only [vthen, vblock])
    | refine VW.block ?_
    | (refine VW.exit ?_; simp only [vthen, vblock, if_true])
  all_goals simp_all

set_option maxRecDepth 100000 in
theorem FnExactValidAct_lifted (os : Os) (started : os.Started) (H : Type) (enc : TypeId × Value → H) :
    ReturnsInHanded {} Try.checked os 4 .any (Rows.fnExactValidActSpec.pre6 enc Try.prog Try.f4 Rows.fnExactValidActRow.domain false) (Rows.fnExactValidActSpec.post enc Try.prog Try.f4 false true false false) := by
  refine returnsInHanded_of_change (C := Try.checked) own started (by kernel_rfl) Try.func4
    (ChangeSpec.witness6 (enc := enc) (C := Try.checked) false ⟨#[], #[.agg #[.int .i64 0, .int .i64 0, .int .i64 0]], []⟩ 8 (by kernel_rfl) (by kernel_rfl) (by kernel_rfl) (by kernel_rfl)) ?_
  intro W base args ds gs before hval0 hW hcnd _
  have hval : ∀ (j : Nat) t v, Try.f4.params[j]? = some t → args[j]? = some v → Value.okWide Try.prog W .any base t v := hval0
  have hW' := hW
  obtain ⟨p, q, hA0, hV, rfl, hfz, hnd⟩ := hW
  have hA : DataW.TrodAll enc Try.prog W 0 (fun _ => true) true Try.f4.params.toList args.toList ds p := hA0
  rw [Try.params4] at hA hval
  obtain ⟨xs, hS, hOk⟩ := args_S (by kernel_rfl) (fun j t v a b => hval j t v (by simpa using a) (by simpa using b)) hA
  obtain ⟨rfl, rfl⟩ := trodVars_none hV
  have hlen : ds.length = 1 := by
    obtain ⟨v0, vs0, d0, ds0, p0, q0, _, hds, _, _, r0⟩ := trodAll_cons hA
    obtain ⟨_, rfl, _⟩ := trodAll_nil r0
    rw [hds]; rfl
  refine ((FnExactValidAct_walk xs hOk).law hS).mono fun e W' ⟨he, bel⟩ => ?_
  subst he
  have hB := args_behind laidOut bel (by kernel_rfl) hA
  have hds : ∃ d0, ds = [d0] := by
    match ds, hlen with
    | [d0], _ => exact ⟨d0, rfl⟩
  obtain ⟨d0, rfl⟩ := hds
  exact ⟨_, rfl, _, _, _, [], _, [], hW', trodAll_mk1 (shut_bool Try.underlying4 _), hB, rfl, bel.frame _, fun h => by cases h⟩

theorem FnExactValidAct_proved : Rows.FnExactValidActSaid :=
  OpenClaim.holds_of_wide 4 Try.f4 rfl rfl rfl rfl rfl rfl rfl ⟨rfl, rfl, rfl, rfl, rfl⟩ rfl rfl rfl rfl rfl (by kernel_rfl) Try.func4 (by kernel_rfl)
    (of_decide_eq_true (by kernel_rfl)) (by unfold Func.isWrapper; first | (rw [if_pos (by decide +kernel)]; kernel_rfl) | (rw [if_neg (by decide +kernel)]; exact ⟨rfl, rfl⟩))
    (fun os started H enc _ => FnExactValidAct_lifted os started H enc)

end Go.Proofs.Ytfklolheleffpaa
