/- The law FnCheapest holds for every input. No conditions. -/
import Derived.Test.YtboeddbhfnlpaaaK4Qb
import Derived.Test.YtboeddbhfnlpaaaVxEnd
import Derived.Test.YtboeddbhfnlpaaaRows
import Derived.WalkKit
import Derived.ProofKit
namespace Go.Proofs.Ytboeddbhfnlpaaa
open Go.ChangeShapes Go.WideShapes Go.ChangeAt Go.RowKit Go.VL
set_option linter.unusedVariables false
set_option linter.unusedSimpArgs false

theorem own : ownKnob Try.prog.godebug = none := by kernel_rfl
theorem laidOut : laidOutB Try.prog = true := by kernel_rfl
theorem rows_of {α : Type} {c : α → List V} {sh : Sh} {B : α → Prop} (h1 : ∀ x, Ok sh x → ∃ a, x = c a ∧ B a) : ∀ {es : List (List V)}, (∀ x ∈ es, Ok sh x) → ∃ xs, es = rows c xs ∧ ∀ y ∈ xs, B y
  | [], _ => ⟨[], rfl, by simp⟩
  | e :: es, h => by
    obtain ⟨a, rfl, ha⟩ := h1 e (h e (by simp))
    obtain ⟨xs, rfl, hx⟩ := rows_of h1 (es := es) fun x hx => h x (by simp [hx])
    exact ⟨a :: xs, rfl, by simpa using ⟨ha, hx⟩⟩
@[simp] def cl_ci_u8 (x : List Int) : List V := [.sl 1 (rows ci_u8 x)]
instance : Snp cl_ci_u8 := ⟨fun x => by simp, fun x => by simp⟩
@[simp] theorem cl_ci_u8_len {x : List Int} : (cl_ci_u8 x).length = 1 := rfl
@[simp] theorem cl_ci_u8_set {xs : List (List Int)} {i : Nat} {a : List Int} : (rows cl_ci_u8 xs).set i [.sl 1 (rows ci_u8 a)] = rows cl_ci_u8 (xs.set i a) := rows_set (c := cl_ci_u8) (x := a)
@[simp] theorem cl_ci_u8_snoc {xs : List (List Int)} {a : List Int} : rows cl_ci_u8 xs ++ [[.sl 1 (rows ci_u8 a)]] = rows cl_ci_u8 (xs ++ [a]) := rows_snoc (c := cl_ci_u8) (x := a)
@[simp] theorem cl_ci_u8_rep {n : Nat} {a : List Int} : List.replicate n [.sl 1 (rows ci_u8 a)] = rows cl_ci_u8 (List.replicate n a) := rows_rep (c := cl_ci_u8) (x := a)
theorem cl_ci_u8_inj (x y : List Int) (h : cl_ci_u8 x = cl_ci_u8 y) : x = y := by
  simp only [cl_ci_u8, List.cons.injEq, V.i.injEq, V.b.injEq, V.f.injEq, V.str.injEq, V.sl.injEq, V.own.injEq, true_and, and_true] at h
  simp_all [ri ci_u8_inj]
theorem okc_5 {x : List V} (h : Ok (.int .u8) x) : ∃ v : Int, x = ci_u8 v ∧ (Lit.int .u8 v).wf = true := by
  obtain ⟨b, rfl, hb⟩ := h
  exact ⟨b, rfl, hb⟩
theorem okc_36 {x : List V} (h : Ok (.slice 1 (.int .u8)) x) : ∃ v : List Int, x = cl_ci_u8 v ∧ v.length ≤ maxLen ∧ (∀ y ∈ v, (Lit.int .u8 y).wf = true) := by
  obtain ⟨es, rfl, h1, h2, h3⟩ := h
  obtain ⟨xs, rfl, h4⟩ := rows_of (fun x hx => okc_5 hx) h3
  exact ⟨xs, rfl, by simpa using h1, h4⟩
theorem shp_36 : shp Try.prog 12 36 = some (.slice 1 (.int .u8)) := by kernel_rfl
set_option maxRecDepth 100000 in
theorem FnCheapest_walk (xs : List V) (h : OkAll Try.prog [36, 36] xs) : VCalls Try.prog 4 xs (fun r => r = .b true) := by
  obtain ⟨y0, ys0, rfl, h0, k0⟩ := h.cons_inv
  obtain ⟨y1, ys1, rfl, h1, k1⟩ := k0.cons_inv
  obtain rfl := k1.nil_inv
  obtain ⟨sh0, s0, h0⟩ := h0
  rw [shp_36] at s0
  cases s0
  unfold OkA at h0
  rw [ag_36] at h0
  obtain ⟨a0, e0, b0⟩ := okc_36 h0
  cases e0
  obtain ⟨sh1, s1, h1⟩ := h1
  rw [shp_36] at s1
  cases s1
  unfold OkA at h1
  rw [ag_36] at h1
  obtain ⟨a1, e1, b1⟩ := okc_36 h1
  cases e1
  exact ok4.2 _ _ (tells_eq inj4 (a := (a0, a1)) (law4 a0 a1 b0 b1))

set_option maxRecDepth 100000 in
theorem FnCheapest_lifted (os : Os) (started : os.Started) (H : Type) (enc : TypeId × Value → H) :
    ReturnsInHanded {} Try.checked os 4 .any (Rows.fnCheapestSpec.pre6 enc Try.prog Try.f4 Rows.fnCheapestRow.domain false) (Rows.fnCheapestSpec.post enc Try.prog Try.f4 false true false false) := by
  refine returnsInHanded_of_change (C := Try.checked) own started (by kernel_rfl) Try.func4
    (ChangeSpec.witness6 (enc := enc) (C := Try.checked) false ⟨#[], #[.slice none 0 0, .slice none 0 0], []⟩ 8 (by kernel_rfl) (by kernel_rfl) (by kernel_rfl) (by kernel_rfl)) ?_
  intro W base args ds gs before hval0 hW hcnd _
  have hval : ∀ (j : Nat) t v, Try.f4.params[j]? = some t → args[j]? = some v → Value.okWide Try.prog W .any base t v := hval0
  have hW' := hW
  obtain ⟨p, q, hA0, hV, rfl, hfz, hnd⟩ := hW
  have hA : DataW.TrodAll enc Try.prog W 0 (fun _ => true) true Try.f4.params.toList args.toList ds p := hA0
  rw [Try.params4] at hA hval
  obtain ⟨xs, hS, hOk⟩ := args_S (by kernel_rfl) (fun j t v a b => hval j t v (by simpa using a) (by simpa using b)) hA
  obtain ⟨rfl, rfl⟩ := trodVars_none hV
  have hlen : ds.length = 2 := by
    obtain ⟨v0, vs0, d0, ds0, p0, q0, _, hds, _, _, r0⟩ := trodAll_cons hA
    obtain ⟨v1, vs1, d1, ds1, p1, q1, _, rfl, _, _, r1⟩ := trodAll_cons r0
    obtain ⟨_, rfl, _⟩ := trodAll_nil r1
    rw [hds]; rfl
  refine ((FnCheapest_walk xs hOk).law hS (Glob.none (by kernel_rfl) (by kernel_rfl) (by kernel_rfl) (by kernel_rfl) W)).mono fun e W' ⟨he, bel⟩ => ?_
  subst he
  have hB := args_behind laidOut bel (by kernel_rfl) hA
  have hds : ∃ d0 d1, ds = [d0, d1] := by
    match ds, hlen with
    | [d0, d1], _ => exact ⟨d0, d1, rfl⟩
  obtain ⟨d0, d1, rfl⟩ := hds
  exact ⟨_, rfl, _, _, _, [], _, [], hW', trodAll_mk1 (shut_bool Try.underlying4 _), hB, rfl, bel.frame _, fun h => by cases h⟩

theorem FnCheapest_proved : Rows.FnCheapestSaid :=
  OpenClaim.holds_of_wide 4 Try.f4 rfl rfl rfl rfl rfl rfl rfl ⟨rfl, rfl, rfl, rfl, rfl⟩ rfl rfl rfl rfl rfl (by kernel_rfl) Try.func4 (by kernel_rfl)
    (of_decide_eq_true (by kernel_rfl)) (by unfold Func.isWrapper; first | (rw [if_pos (by decide +kernel)]; kernel_rfl) | (rw [if_neg (by decide +kernel)]; exact ⟨rfl, rfl⟩))
    (fun os started H enc _ => FnCheapest_lifted os started H enc)

end Go.Proofs.Ytboeddbhfnlpaaa
