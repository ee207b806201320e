/- The law FnExactToTenths holds for every input. No conditions. -/
import Derived.Test.YtilkneilafpjiaaK3Pa
import Derived.Test.YtilkneilafpjiaaVxEnd
import Derived.Test.YtilkneilafpjiaaRows
import Derived.WalkKit
import Derived.ProofKit
namespace Go.Proofs.Ytilkneilafpjiaa
open Go.ChangeShapes Go.WideShapes Go.ChangeAt Go.RowKit Go.VL
set_option linter.unusedVariables false
set_option linter.unusedSimpArgs false

theorem own : ownKnob Try.prog.godebug = none := by kernel_rfl
theorem laidOut : laidOutB Try.prog = true := by kernel_rfl
theorem rows_of {α : Type} {c : α → List V} {sh : Sh} {B : α → Prop} (h1 : ∀ x, Ok sh x → ∃ a, x = c a ∧ B a) : ∀ {es : List (List V)}, (∀ x ∈ es, Ok sh x) → ∃ xs, es = rows c xs ∧ ∀ y ∈ xs, B y
  | [], _ => ⟨[], rfl, by simp⟩
  | e :: es, h => by
    obtain ⟨a, rfl, ha⟩ := h1 e (h e (by simp))
    obtain ⟨xs, rfl, hx⟩ := rows_of h1 (es := es) fun x hx => h x (by simp [hx])
    exact ⟨a :: xs, rfl, by simpa using ⟨ha, hx⟩⟩
@[simp] def cf_f32 (x : F32) : List V := [.f .f32 x]
instance : Pln cf_f32 := ⟨fun x => by simp⟩
@[simp] theorem cf_f32_len {x : F32} : (cf_f32 x).length = 1 := rfl
@[simp] theorem cf_f32_set {xs : List F32} {i : Nat} {a : F32} : (rows cf_f32 xs).set i [.f .f32 a] = rows cf_f32 (xs.set i a) := rows_set (c := cf_f32) (x := a)
@[simp] theorem cf_f32_snoc {xs : List F32} {a : F32} : rows cf_f32 xs ++ [[.f .f32 a]] = rows cf_f32 (xs ++ [a]) := rows_snoc (c := cf_f32) (x := a)
@[simp] theorem cf_f32_rep {n : Nat} {a : F32} : List.replicate n [.f .f32 a] = rows cf_f32 (List.replicate n a) := rows_rep (c := cf_f32) (x := a)
theorem cf_f32_inj (x y : F32) (h : cf_f32 x = cf_f32 y) : x = y := by
  simp only [cf_f32, List.cons.injEq, V.i.injEq, V.b.injEq, V.f.injEq, V.str.injEq, V.sl.injEq, V.own.injEq, true_and, and_true] at h
  simp_all
theorem okc_22 {x : List V} (h : Ok (.float .f32) x) : ∃ v : F32, x = cf_f32 v ∧ True := by
  obtain ⟨b, rfl, hb⟩ := h
  exact ⟨some b, rfl, trivial⟩
theorem shp_22 : shp Try.prog 12 22 = some (.float .f32) := by kernel_rfl
set_option maxRecDepth 100000 in
theorem FnExactToTenths_walk (xs : List V) (h : OkAll Try.prog [22] xs) : VCalls Try.prog 3 xs (fun r => r = .b true) := by
  obtain ⟨y0, ys0, rfl, h0, k0⟩ := h.cons_inv
  obtain rfl := k0.nil_inv
  obtain ⟨sh0, s0, h0⟩ := h0
  rw [shp_22] at s0
  cases s0
  unfold OkA at h0
  rw [ag_22] at h0
  obtain ⟨a0, e0, b0⟩ := okc_22 h0
  cases e0
  exact ok3.2 _ _ (tells_eq inj3 (a := a0) (law3 a0 ))

set_option maxRecDepth 100000 in
theorem FnExactToTenths_lifted (os : Os) (started : os.Started) (H : Type) (enc : TypeId × Value → H) :
    ReturnsInHanded {} Try.checked os 3 .any (Rows.fnExactToTenthsSpec.pre6 enc Try.prog Try.f3 Rows.fnExactToTenthsRow.domain false) (Rows.fnExactToTenthsSpec.post enc Try.prog Try.f3 false true false false) := by
  refine returnsInHanded_of_change (C := Try.checked) own started (by kernel_rfl) Try.func3
    (ChangeSpec.witness6 (enc := enc) (C := Try.checked) false ⟨#[], #[.float .f32 0], []⟩ 8 (by kernel_rfl) (by kernel_rfl) (by kernel_rfl) (by kernel_rfl)) ?_
  intro W base args ds gs before hval0 hW hcnd _
  have hval : ∀ (j : Nat) t v, Try.f3.params[j]? = some t → args[j]? = some v → Value.okWide Try.prog W .any base t v := hval0
  have hW' := hW
  obtain ⟨p, q, hA0, hV, rfl, hfz, hnd⟩ := hW
  have hA : DataW.TrodAll enc Try.prog W 0 (fun _ => true) true Try.f3.params.toList args.toList ds p := hA0
  rw [Try.params3] at hA hval
  obtain ⟨xs, hS, hOk⟩ := args_S (by kernel_rfl) (fun j t v a b => hval j t v (by simpa using a) (by simpa using b)) hA
  obtain ⟨rfl, rfl⟩ := trodVars_none hV
  have hlen : ds.length = 1 := by
    obtain ⟨v0, vs0, d0, ds0, p0, q0, _, hds, _, _, r0⟩ := trodAll_cons hA
    obtain ⟨_, rfl, _⟩ := trodAll_nil r0
    rw [hds]; rfl
  refine ((FnExactToTenths_walk xs hOk).law hS (Glob.none (by kernel_rfl) (by kernel_rfl) (by kernel_rfl) W)).mono fun e W' ⟨he, bel⟩ => ?_
  subst he
  have hB := args_behind laidOut bel (by kernel_rfl) hA
  have hds : ∃ d0, ds = [d0] := by
    match ds, hlen with
    | [d0], _ => exact ⟨d0, rfl⟩
  obtain ⟨d0, rfl⟩ := hds
  exact ⟨_, rfl, _, _, _, [], _, [], hW', trodAll_mk1 (shut_bool Try.underlying4 _), hB, rfl, bel.frame _, fun h => by cases h⟩

theorem FnExactToTenths_proved : Rows.FnExactToTenthsSaid :=
  OpenClaim.holds_of_wide 3 Try.f3 rfl rfl rfl rfl rfl rfl rfl ⟨rfl, rfl, rfl, rfl, rfl⟩ rfl rfl rfl rfl rfl (by kernel_rfl) Try.func3 (by kernel_rfl)
    (of_decide_eq_true (by kernel_rfl)) (by unfold Func.isWrapper; first | (rw [if_pos (by decide +kernel)]; kernel_rfl) | (rw [if_neg (by decide +kernel)]; exact ⟨rfl, rfl⟩))
    (fun os started H enc _ => FnExactToTenths_lifted os started H enc)

end Go.Proofs.Ytilkneilafpjiaa
