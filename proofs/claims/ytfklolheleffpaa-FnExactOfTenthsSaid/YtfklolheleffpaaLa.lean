/- The law FnExactOfTenths holds for every input: the program's function returns what the reference's returns. No conditions. -/
import Derived.Test.YtfklolheleffpaaVxEnd
import Derived.Test.YtfklolheleffpaaAa
import Derived.Test.YtfklolheleffpaaRows
import Derived.WalkKit
import Derived.ProofKit
namespace Go.Proofs.Ytfklolheleffpaa
open Go.ChangeShapes Go.WideShapes Go.ChangeAt Go.RowKit Go.VL
set_option linter.unusedVariables false
set_option linter.unusedSimpArgs false

theorem own : ownKnob Try.prog.godebug = none := by kernel_rfl
theorem laidOut : laidOutB Try.prog = true := by kernel_rfl
theorem shp22 : shp Try.prog 12 22 = some (.int .i16) := by kernel_rfl

set_option maxRecDepth 100000 in
theorem FnExactOfTenths_walk (xs : List V) (h : OkAll Try.prog [22] xs) : VCalls Try.prog 3 xs (fun r => r = .b true) := by
  obtain ⟨x, rfl, sh, h1, h2⟩ : ∃ x, xs = [x] ∧ OkT Try.prog 22 x := by cases h with | cons h hs => cases hs; exact ⟨_, rfl, h⟩
  rw [shp22] at h1
  cases h1
  have ha : aggB Try.prog 22 = false := by kernel_rfl
  rw [ha] at h2
  obtain ⟨n, hn, _⟩ := h2
  cases hn
  refine VCalls.of Try.func3 rfl rfl rfl ?_
  repeat' first
    | refine VW.seq ?_
    | (refine VW.evalK (C := [(7, F7), (8, F7), (9, F9)]) ⟨ok7, ok8, ok9, trivial⟩ (by kernel_rfl) ?_; simp [veval, guardV, mrgT, skipT, vstep, vop1, vq, vbin, vbinF, vconv, tk22, tk23, tk26, tk4, isShift, vreL, vre, vre1, snapV, cenv, F7, F9, vex, vex1, frz, fconv_wide, vun])
    | (refine VW.ret (VRet.plain ?_); simp [vres, vres1])
    | (refine VW.condB rfl (fun h => ?_) (fun h => ?_))
    | exact VW.skip trivial
    | (refine VW.skip ?_; simp only [vthen])
  all_goals simp_all [sameF]

set_option maxRecDepth 100000 in
theorem FnExactOfTenths_lifted (os : Os) (started : os.Started) (H : Type) (enc : TypeId × Value → H) :
    ReturnsInHanded {} Try.checked os 3 .any (Rows.fnExactOfTenthsSpec.pre6 enc Try.prog Try.f3 Rows.fnExactOfTenthsRow.domain false) (Rows.fnExactOfTenthsSpec.post enc Try.prog Try.f3 false true false false) := by
  refine returnsInHanded_of_change (C := Try.checked) own started (by kernel_rfl) Try.func3
    (ChangeSpec.witness6 (enc := enc) (C := Try.checked) false ⟨#[], #[.int .i16 0], []⟩ 8 (by kernel_rfl) (by kernel_rfl) (by kernel_rfl) (by kernel_rfl)) ?_
  intro W base args ds gs before hval0 hW hcnd _
  have hval : ∀ (j : Nat) t v, Try.f3.params[j]? = some t → args[j]? = some v → Value.okWide Try.prog W .any base t v := hval0
  have hW' := hW
  obtain ⟨p, q, hA0, hV, rfl, hfz, hnd⟩ := hW
  have hA : DataW.TrodAll enc Try.prog W 0 (fun _ => true) true Try.f3.params.toList args.toList ds p := hA0
  rw [Try.params3] at hA hval
  obtain ⟨xs, hS, hOk⟩ := args_S (by kernel_rfl) (fun j t v a b => hval j t v (by simpa using a) (by simpa using b)) hA
  obtain ⟨rfl, rfl⟩ := trodVars_none hV
  have hlen : ds.length = 1 := by
    obtain ⟨v0, vs0, d0, ds0, p0, q0, _, hds, _, _, r0⟩ := trodAll_cons hA
    obtain ⟨_, rfl, _⟩ := trodAll_nil r0
    rw [hds]; rfl
  refine ((FnExactOfTenths_walk xs hOk).law hS).mono fun e W' ⟨he, bel⟩ => ?_
  subst he
  have hB := args_behind laidOut bel (by kernel_rfl) hA
  have hds : ∃ d0, ds = [d0] := by
    match ds, hlen with
    | [d0], _ => exact ⟨d0, rfl⟩
  obtain ⟨d0, rfl⟩ := hds
  exact ⟨_, rfl, _, _, _, [], _, [], hW', trodAll_mk1 (shut_bool Try.underlying4 _), hB, rfl, bel.frame _, fun h => by cases h⟩

theorem FnExactOfTenths_proved : Rows.FnExactOfTenthsSaid :=
  OpenClaim.holds_of_wide 3 Try.f3 rfl rfl rfl rfl rfl rfl rfl ⟨rfl, rfl, rfl, rfl, rfl⟩ rfl rfl rfl rfl rfl (by kernel_rfl) Try.func3 (by kernel_rfl)
    (of_decide_eq_true (by kernel_rfl)) (by unfold Func.isWrapper; first | (rw [if_pos (by decide +kernel)]; kernel_rfl) | (rw [if_neg (by decide +kernel)]; exact ⟨rfl, rfl⟩))
    (fun os started H enc _ => FnExactOfTenths_lifted os started H enc)

end Go.Proofs.Ytfklolheleffpaa
