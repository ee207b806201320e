/- The law FnExactValuesOf holds for every input. No conditions. -/
import Derived.Test.YtboeddbhfnlpaaaK3Py
import Derived.Test.YtboeddbhfnlpaaaVxEnd
import Derived.Test.YtboeddbhfnlpaaaRows
import Derived.WalkKit
import Derived.ProofKit
namespace Go.Proofs.Ytboeddbhfnlpaaa
open Go.ChangeShapes Go.WideShapes Go.ChangeAt Go.RowKit Go.VL
set_option linter.unusedVariables false
set_option linter.unusedSimpArgs false

theorem own : ownKnob Try.prog.godebug = none := by kernel_rfl
theorem laidOut : laidOutB Try.prog = true := by kernel_rfl
theorem rows_of {α : Type} {c : α → List V} {sh : Sh} {B : α → Prop} (h1 : ∀ x, Ok sh x → ∃ a, x = c a ∧ B a) : ∀ {es : List (List V)}, (∀ x ∈ es, Ok sh x) → ∃ xs, es = rows c xs ∧ ∀ y ∈ xs, B y
  | [], _ => ⟨[], rfl, by simp⟩
  | e :: es, h => by
    obtain ⟨a, rfl, ha⟩ := h1 e (h e (by simp))
    obtain ⟨xs, rfl, hx⟩ := rows_of h1 (es := es) fun x hx => h x (by simp [hx])
    exact ⟨a :: xs, rfl, by simpa using ⟨ha, hx⟩⟩
theorem okc_2 {x : List V} (h : Ok (.int .i64) x) : ∃ v : Int, x = ci_i64 v ∧ True := by
  obtain ⟨b, rfl, hb⟩ := h
  exact ⟨b, rfl, trivial⟩
theorem okc_22 {x : List V} (h : Ok (.slice 1 (.int .i64)) x) : ∃ v : List Int, x = cl_ci_i64 v ∧ v.length ≤ maxLen := by
  obtain ⟨es, rfl, h1, h2, h3⟩ := h
  obtain ⟨xs, rfl, h4⟩ := rows_of (fun x hx => okc_2 hx) h3
  exact ⟨xs, rfl, by simpa using h1⟩
theorem okc_24 {x : List V} (h : Ok (.seq (.slice 1 (.int .i64)) (.seq (.slice 1 (.int .i64)) (.seq (.int .i64) (.seq (.int .i64) (.seq (.int .i64) (.seq (.int .i64) (.seq (.int .i64) (.unit)))))))) x) : ∃ v : T23, x = cT23 v ∧ v.need_.length ≤ maxLen ∧ v.price_.length ≤ maxLen := by
  obtain ⟨_, _, rfl, h0, h⟩ := h
  obtain ⟨v0, rfl, k0⟩ := okc_22 h0
  obtain ⟨_, _, rfl, h1, h⟩ := h
  obtain ⟨v1, rfl, k1⟩ := okc_22 h1
  obtain ⟨_, _, rfl, h2, h⟩ := h
  obtain ⟨v2, rfl, k2⟩ := okc_2 h2
  obtain ⟨_, _, rfl, h3, h⟩ := h
  obtain ⟨v3, rfl, k3⟩ := okc_2 h3
  obtain ⟨_, _, rfl, h4, h⟩ := h
  obtain ⟨v4, rfl, k4⟩ := okc_2 h4
  obtain ⟨_, _, rfl, h5, h⟩ := h
  obtain ⟨v5, rfl, k5⟩ := okc_2 h5
  obtain ⟨_, _, rfl, h6, h⟩ := h
  obtain ⟨v6, rfl, k6⟩ := okc_2 h6
  cases h
  exact ⟨⟨v0, v1, v2, v3, v4, v5, v6⟩, rfl, k0, k1⟩
theorem shp_24 : shp Try.prog 12 24 = some (.seq (.slice 1 (.int .i64)) (.seq (.slice 1 (.int .i64)) (.seq (.int .i64) (.seq (.int .i64) (.seq (.int .i64) (.seq (.int .i64) (.seq (.int .i64) (.unit)))))))) := by kernel_rfl
set_option maxRecDepth 100000 in
theorem FnExactValuesOf_walk (xs : List V) (h : OkAll Try.prog [24] xs) : VCalls Try.prog 3 xs (fun r => r = .b true) := by
  obtain ⟨y0, ys0, rfl, h0, k0⟩ := h.cons_inv
  obtain rfl := k0.nil_inv
  obtain ⟨sh0, s0, h0⟩ := h0
  rw [shp_24] at s0
  cases s0
  unfold OkA at h0
  rw [ag_24] at h0
  obtain ⟨_, rfl, h0⟩ := h0
  obtain ⟨a0, rfl, b0⟩ := okc_24 h0
  exact ok3.2 _ _ (tells_eq inj3 (a := a0) (law3 a0 b0))

set_option maxRecDepth 100000 in
theorem FnExactValuesOf_lifted (os : Os) (started : os.Started) (H : Type) (enc : TypeId × Value → H) :
    ReturnsInHanded {} Try.checked os 3 .any (Rows.fnExactValuesOfSpec.pre6 enc Try.prog Try.f3 Rows.fnExactValuesOfRow.domain false) (Rows.fnExactValuesOfSpec.post enc Try.prog Try.f3 false true false false) := by
  refine returnsInHanded_of_change (C := Try.checked) own started (by kernel_rfl) Try.func3
    (ChangeSpec.witness6 (enc := enc) (C := Try.checked) false ⟨#[], #[.agg #[.slice none 0 0, .slice none 0 0, .int .i64 0, .int .i64 0, .int .i64 0, .int .i64 0, .int .i64 0]], []⟩ 8 (by kernel_rfl) (by kernel_rfl) (by kernel_rfl) (by kernel_rfl)) ?_
  intro W base args ds gs before hval0 hW hcnd _
  have hval : ∀ (j : Nat) t v, Try.f3.params[j]? = some t → args[j]? = some v → Value.okWide Try.prog W .any base t v := hval0
  have hW' := hW
  obtain ⟨p, q, hA0, hV, rfl, hfz, hnd⟩ := hW
  have hA : DataW.TrodAll enc Try.prog W 0 (fun _ => true) true Try.f3.params.toList args.toList ds p := hA0
  rw [Try.params3] at hA hval
  obtain ⟨xs, hS, hOk⟩ := args_S (by kernel_rfl) (fun j t v a b => hval j t v (by simpa using a) (by simpa using b)) hA
  obtain ⟨rfl, rfl⟩ := trodVars_none hV
  have hlen : ds.length = 1 := by
    obtain ⟨v0, vs0, d0, ds0, p0, q0, _, hds, _, _, r0⟩ := trodAll_cons hA
    obtain ⟨_, rfl, _⟩ := trodAll_nil r0
    rw [hds]; rfl
  refine ((FnExactValuesOf_walk xs hOk).law hS (Glob.none (by kernel_rfl) (by kernel_rfl) (by kernel_rfl) (by kernel_rfl) W)).mono fun e W' ⟨he, bel⟩ => ?_
  subst he
  have hB := args_behind laidOut bel (by kernel_rfl) hA
  have hds : ∃ d0, ds = [d0] := by
    match ds, hlen with
    | [d0], _ => exact ⟨d0, rfl⟩
  obtain ⟨d0, rfl⟩ := hds
  exact ⟨_, rfl, _, _, _, [], _, [], hW', trodAll_mk1 (shut_bool Try.underlying4 _), hB, rfl, bel.frame _, fun h => by cases h⟩

theorem FnExactValuesOf_proved : Rows.FnExactValuesOfSaid :=
  OpenClaim.holds_of_wide 3 Try.f3 rfl rfl rfl rfl rfl rfl rfl ⟨rfl, rfl, rfl, rfl, rfl⟩ rfl rfl rfl rfl rfl (by kernel_rfl) Try.func3 (by kernel_rfl)
    (of_decide_eq_true (by kernel_rfl)) (by unfold Func.isWrapper; first | (rw [if_pos (by decide +kernel)]; kernel_rfl) | (rw [if_neg (by decide +kernel)]; exact ⟨rfl, rfl⟩))
    (fun os started H enc _ => FnExactValuesOf_lifted os started H enc)

end Go.Proofs.Ytboeddbhfnlpaaa
