/- The law FnExactSeasonText holds for every input. No conditions. -/
import Derived.Test.YtaajogkciipnjaaDoorK4Pt
import Derived.Test.YtaajogkciipnjaaDoorVxEnd
import Derived.Test.YtaajogkciipnjaaDoorRows
import Derived.WalkKit
import Derived.ProofKit
import Derived.Test.YtaajogkciipnjaaDoorCards
import Derived.Test.YtaajogkciipnjaaDoorTie
import Derived.LaidMore
import Derived.OpenShut
import Derived.Stop.Joined
import Derived.Stop.LaidErr
import Derived.SevenTiedAt
import Derived.Test.YtaajogkciipnjaaDoorVxCard
namespace Go.Proofs.YtaajogkciipnjaaDoor
open Go.ChangeShapes Go.WideShapes Go.ChangeAt Go.RowKit Go.VL
set_option linter.unusedVariables false
set_option linter.unusedSimpArgs false

theorem own : ownKnob Tryd.prog.godebug = none := by kernel_rfl
theorem laidOut : laidOutB Tryd.prog = true := by kernel_rfl
theorem rows_of {α : Type} {c : α → List V} {sh : Sh} {B : α → Prop} (h1 : ∀ x, Ok sh x → ∃ a, x = c a ∧ B a) : ∀ {es : List (List V)}, (∀ x ∈ es, Ok sh x) → ∃ xs, es = rows c xs ∧ ∀ y ∈ xs, B y
  | [], _ => ⟨[], rfl, by simp⟩
  | e :: es, h => by
    obtain ⟨a, rfl, ha⟩ := h1 e (h e (by simp))
    obtain ⟨xs, rfl, hx⟩ := rows_of h1 (es := es) fun x hx => h x (by simp [hx])
    exact ⟨a :: xs, rfl, by simpa using ⟨ha, hx⟩⟩
@[simp] def cl_ci_i64 (x : List Int) : List V := [.sl 1 (rows ci_i64 x)]
instance : Snp cl_ci_i64 := ⟨fun x => by simp, fun x => by simp⟩
@[simp] theorem cl_ci_i64_len {x : List Int} : (cl_ci_i64 x).length = 1 := rfl
@[simp] theorem cl_ci_i64_set {xs : List (List Int)} {i : Nat} {a : List Int} : (rows cl_ci_i64 xs).set i [.sl 1 (rows ci_i64 a)] = rows cl_ci_i64 (xs.set i a) := rows_set (c := cl_ci_i64) (x := a)
@[simp] theorem cl_ci_i64_snoc {xs : List (List Int)} {a : List Int} : rows cl_ci_i64 xs ++ [[.sl 1 (rows ci_i64 a)]] = rows cl_ci_i64 (xs ++ [a]) := rows_snoc (c := cl_ci_i64) (x := a)
@[simp] theorem cl_ci_i64_rep {n : Nat} {a : List Int} : List.replicate n [.sl 1 (rows ci_i64 a)] = rows cl_ci_i64 (List.replicate n a) := rows_rep (c := cl_ci_i64) (x := a)
theorem cl_ci_i64_inj (x y : List Int) (h : cl_ci_i64 x = cl_ci_i64 y) : x = y := by
  simp only [cl_ci_i64, List.cons.injEq, V.i.injEq, V.b.injEq, V.f.injEq, V.str.injEq, V.sl.injEq, V.own.injEq, true_and, and_true] at h
  simp_all [ri ci_i64_inj]
theorem okc_2 {x : List V} (h : Ok (.int .i64) x) : ∃ v : Int, x = ci_i64 v ∧ True := by
  obtain ⟨b, rfl, hb⟩ := h
  exact ⟨b, rfl, trivial⟩
theorem okc_28 {x : List V} (h : Ok (.slice 1 (.int .i64)) x) : ∃ v : List Int, x = cl_ci_i64 v ∧ v.length ≤ maxLen := by
  obtain ⟨es, rfl, h1, h2, h3⟩ := h
  obtain ⟨xs, rfl, h4⟩ := rows_of (fun x hx => okc_2 hx) h3
  exact ⟨xs, rfl, by simpa using h1⟩
theorem okc_30 {x : List V} (h : Ok (.seq (.slice 1 (.int .i64)) (.seq (.slice 1 (.int .i64)) (.seq (.int .i64) (.seq (.int .i64) (.seq (.int .i64) (.seq (.int .i64) (.seq (.int .i64) (.unit)))))))) x) : ∃ v : T30, x = cT30 v ∧ v.need_.length ≤ maxLen ∧ v.price_.length ≤ maxLen := by
  obtain ⟨_, _, rfl, h0, h⟩ := h
  obtain ⟨v0, rfl, k0⟩ := okc_28 h0
  obtain ⟨_, _, rfl, h1, h⟩ := h
  obtain ⟨v1, rfl, k1⟩ := okc_28 h1
  obtain ⟨_, _, rfl, h2, h⟩ := h
  obtain ⟨v2, rfl, k2⟩ := okc_2 h2
  obtain ⟨_, _, rfl, h3, h⟩ := h
  obtain ⟨v3, rfl, k3⟩ := okc_2 h3
  obtain ⟨_, _, rfl, h4, h⟩ := h
  obtain ⟨v4, rfl, k4⟩ := okc_2 h4
  obtain ⟨_, _, rfl, h5, h⟩ := h
  obtain ⟨v5, rfl, k5⟩ := okc_2 h5
  obtain ⟨_, _, rfl, h6, h⟩ := h
  obtain ⟨v6, rfl, k6⟩ := okc_2 h6
  cases h
  exact ⟨⟨v0, v1, v2, v3, v4, v5, v6⟩, rfl, k0, k1⟩
theorem shp_30 : shp Tryd.prog 12 30 = some (.seq (.slice 1 (.int .i64)) (.seq (.slice 1 (.int .i64)) (.seq (.int .i64) (.seq (.int .i64) (.seq (.int .i64) (.seq (.int .i64) (.seq (.int .i64) (.unit)))))))) := by kernel_rfl
set_option maxRecDepth 100000 in
theorem FnExactSeasonText_walk (xs : List V) (h : OkAll Tryd.prog [30] xs) : VCalls Tryd.prog 4 xs (fun r => r = .b true) := by
  obtain ⟨y0, ys0, rfl, h0, k0⟩ := h.cons_inv
  obtain rfl := k0.nil_inv
  obtain ⟨sh0, s0, h0⟩ := h0
  rw [shp_30] at s0
  cases s0
  unfold OkA at h0
  rw [ag_30] at h0
  obtain ⟨_, rfl, h0⟩ := h0
  obtain ⟨a0, rfl, b0⟩ := okc_30 h0
  exact ok4.2 _ _ (tells_eq inj4 (a := a0) (law4 a0 b0))

theorem FnExactSeasonText_door (os : Os) (args : Array Value) : laidMetH Tryd.prog Rows.fnExactSeasonTextRow.laid ((World.doorLaid Tryd.prog 24 os).forCall (fun _ _ => 0) ⟨#[], args, []⟩).memory :=
  laidMetH_of_parts3 (fuel := 8) (laidMet_of_run' 8 (by kernel_rfl) (by kernel_rfl)) (by kernel_rfl) (by kernel_rfl)
theorem FnExactSeasonText_glob {W : World} (h : laidMetH Tryd.prog Rows.fnExactSeasonTextRow.laid W) (hsh : W.ShapedOpen Tryd.prog) : Glob Tryd.prog W := by
  rw [MakeChecks.laidMetH_plain _ _ _ (by kernel_rfl)] at h
  exact ⟨fun g hg => Lib.tabIs_of_head (k := .u64) (zs := Lib.pow10Tab) (show Tryd.prog.globalNamed "internal/strconv.uint64pow10" = some 0 by kernel_rfl) (show (Tryd.prog.globals[0]?).map (·.type) = some 97 by kernel_rfl) Tryd.underlying97 Tryd.underlying89 (by kernel_rfl) (by kernel_rfl) (h.tail.tail), fun g hg => (by have : Tryd.prog.globalNamed "strconv.ErrSyntax" = none := (by kernel_rfl); rw [this] at hg; cases hg), fun g hg => (by have : Tryd.prog.globalNamed "strconv.ErrRange" = none := (by kernel_rfl); rw [this] at hg; cases hg), int_var (z := 0) (t := 3) hsh (show Tryd.prog.globalNamed "internal/bytealg.MaxLen" = some 1 by kernel_rfl) (by kernel_rfl) (by kernel_rfl) (by kernel_rfl) (by kernel_rfl) Tryd.underlying3⟩

set_option maxRecDepth 100000 in
theorem FnExactSeasonText_lifted (os : Os) (started : os.Started) (H : Type) (enc : TypeId × Value → H) :
    ReturnsInHanded {} Tryd.checked os 4 .any (fun w args => (Rows.fnExactSeasonTextSpec.pre enc Tryd.prog Tryd.f4 [] false w args ∧ laidMetH Tryd.prog Rows.fnExactSeasonTextRow.laid w) ∧ sizedMet enc Tryd.prog Tryd.f4 (OpenSpec.ofChange Rows.fnExactSeasonTextSpec) false w args) (Rows.fnExactSeasonTextSpec.post enc Tryd.prog Tryd.f4 false true false false) := by
  refine handed_laid (C := Tryd.checked) (X := fun w _ => laidMetH Tryd.prog Rows.fnExactSeasonTextRow.laid w) (fun _ _ _ hh h => h.of_heap hh) own started (by kernel_rfl) Tryd.func4
    (ChangeSpec.witness_shaped (enc := enc) (C := Tryd.checked) (os := os) (X := fun w _ => laidMetH Tryd.prog Rows.fnExactSeasonTextRow.laid w) false (World.doorLaid Tryd.prog 24 os) #[.agg #[.slice none 0 0, .slice none 0 0, .int .i64 0, .int .i64 0, .int .i64 0, .int .i64 0, .int .i64 0]] 8 rfl (World.shaped_of_RefB (by kernel_rfl) (by kernel_rfl)) (by kernel_rfl) (by kernel_rfl) (by kernel_rfl) (FnExactSeasonText_door os _)) ?_
  intro W base args ds gs before hL hsh hval0 hW
  have hval : ∀ (j : Nat) t v, Tryd.f4.params[j]? = some t → args[j]? = some v → Value.okWide Tryd.prog W .any base t v := hval0
  have hW' := hW
  obtain ⟨p, q, hA0, hV, rfl, hfz, hnd⟩ := hW
  have hA : DataW.TrodAll enc Tryd.prog W 0 (fun _ => true) true Tryd.f4.params.toList args.toList ds p := hA0
  rw [Tryd.params4] at hA hval
  obtain ⟨xs, hS, hOk⟩ := args_S (by kernel_rfl) (fun j t v a b => hval j t v (by simpa using a) (by simpa using b)) hA
  obtain ⟨rfl, rfl⟩ := trodVars_none hV
  have hlen : ds.length = 1 := by
    obtain ⟨v0, vs0, d0, ds0, p0, q0, _, hds, _, _, r0⟩ := trodAll_cons hA
    obtain ⟨_, rfl, _⟩ := trodAll_nil r0
    rw [hds]; rfl
  refine ((FnExactSeasonText_walk xs hOk).law hS (FnExactSeasonText_glob hL hsh)).mono fun e W' ⟨he, bel⟩ => ?_
  subst he
  have hB := args_behind laidOut bel (by kernel_rfl) hA
  have hds : ∃ d0, ds = [d0] := by
    match ds, hlen with
    | [d0], _ => exact ⟨d0, rfl⟩
  obtain ⟨d0, rfl⟩ := hds
  exact ⟨_, rfl, _, _, _, [], _, [], hW', trodAll_mk1 (shut_bool Tryd.underlying4 _), hB, rfl, bel.frame _, fun h => by cases h⟩

theorem FnExactSeasonText_row : Rows.FnExactSeasonTextSaid :=
  OpenClaim.holds_of_wide 4 Tryd.f4 rfl rfl rfl rfl rfl rfl rfl ⟨rfl, rfl, rfl, rfl, rfl⟩ rfl rfl rfl rfl rfl (by kernel_rfl) Tryd.func4 (by kernel_rfl)
    (of_decide_eq_true (by kernel_rfl)) (by unfold Func.isWrapper; first | (rw [if_pos (by decide +kernel)]; kernel_rfl) | (rw [if_neg (by decide +kernel)]; exact ⟨rfl, rfl⟩))
    (fun os started H enc _ => FnExactSeasonText_lifted os started H enc)

theorem FnExactSeasonText_proved : Rows.FnExactSeasonTextCardSaid :=
  Claim7.holds_tied_plain_at .later [] [.data, .data, .data] true (true, "16e5b94847590dc59a777d392f2a9cc4c353c95171a4b05e5dc470e977ebcf7e") false
    FnExactSeasonText_row (fun _ h => by cases h) (by kernel_rfl) (fun _ h => by cases h) fnExactSeasonText_row_tie rfl ⟨rfl, rfl⟩ (by kernel_rfl) rfl
    (fun f fn hf hfn => by
      obtain rfl : f = 4 := Option.some.inj ((show Tryd.prog.funcNamed "loop.example/g01229/laws.FnExactSeasonText" = some 4 by kernel_rfl).symm.trans hf) |>.symm
      obtain rfl : fn = Tryd.f4 := (Option.some.inj (Tryd.func4.symm.trans hfn)).symm
      exact ⟨by kernel_rfl, fun j t ht => by
        rw [Tryd.params4] at ht
        have hm : t ∈ [30] := by simpa using Array.mem_of_getElem? ht
        have hall : ([30].all fun u => !Tryd.prog.wantsStandIn u) = true := by kernel_rfl
        exact (show Tryd.prog.wantsStandIn t = false by simpa using List.all_eq_true.1 hall t hm)⟩)
    (by kernel_rfl)

end Go.Proofs.YtaajogkciipnjaaDoor
