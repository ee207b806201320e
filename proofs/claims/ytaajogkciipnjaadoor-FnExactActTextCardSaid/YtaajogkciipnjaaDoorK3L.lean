/- The law FnExactActText holds for every input. No conditions. -/
import Derived.Test.YtaajogkciipnjaaDoorK3Pt
import Derived.Test.YtaajogkciipnjaaDoorVxEnd
import Derived.Test.YtaajogkciipnjaaDoorRows
import Derived.WalkKit
import Derived.ProofKit
import Derived.Test.YtaajogkciipnjaaDoorCards
import Derived.Test.YtaajogkciipnjaaDoorTie
import Derived.LaidMore
import Derived.OpenShut
import Derived.Stop.Joined
import Derived.Stop.LaidErr
import Derived.SevenTiedAt
import Derived.Test.YtaajogkciipnjaaDoorVxCard
namespace Go.Proofs.YtaajogkciipnjaaDoor
open Go.ChangeShapes Go.WideShapes Go.ChangeAt Go.RowKit Go.VL
set_option linter.unusedVariables false
set_option linter.unusedSimpArgs false

theorem own : ownKnob Tryd.prog.godebug = none := by kernel_rfl
theorem laidOut : laidOutB Tryd.prog = true := by kernel_rfl
theorem rows_of {α : Type} {c : α → List V} {sh : Sh} {B : α → Prop} (h1 : ∀ x, Ok sh x → ∃ a, x = c a ∧ B a) : ∀ {es : List (List V)}, (∀ x ∈ es, Ok sh x) → ∃ xs, es = rows c xs ∧ ∀ y ∈ xs, B y
  | [], _ => ⟨[], rfl, by simp⟩
  | e :: es, h => by
    obtain ⟨a, rfl, ha⟩ := h1 e (h e (by simp))
    obtain ⟨xs, rfl, hx⟩ := rows_of h1 (es := es) fun x hx => h x (by simp [hx])
    exact ⟨a :: xs, rfl, by simpa using ⟨ha, hx⟩⟩
theorem okc_2 {x : List V} (h : Ok (.int .i64) x) : ∃ v : Int, x = ci_i64 v ∧ True := by
  obtain ⟨b, rfl, hb⟩ := h
  exact ⟨b, rfl, trivial⟩
theorem okc_23 {x : List V} (h : Ok (.seq (.int .i64) (.seq (.int .i64) (.seq (.int .i64) (.unit)))) x) : ∃ v : T25, x = cT25 v ∧ True := by
  obtain ⟨_, _, rfl, h0, h⟩ := h
  obtain ⟨v0, rfl, k0⟩ := okc_2 h0
  obtain ⟨_, _, rfl, h1, h⟩ := h
  obtain ⟨v1, rfl, k1⟩ := okc_2 h1
  obtain ⟨_, _, rfl, h2, h⟩ := h
  obtain ⟨v2, rfl, k2⟩ := okc_2 h2
  cases h
  exact ⟨⟨v0, v1, v2⟩, rfl, trivial⟩
theorem shp_23 : shp Tryd.prog 12 23 = some (.seq (.int .i64) (.seq (.int .i64) (.seq (.int .i64) (.unit)))) := by kernel_rfl
set_option maxRecDepth 100000 in
theorem FnExactActText_walk (xs : List V) (h : OkAll Tryd.prog [23] xs) : VCalls Tryd.prog 3 xs (fun r => r = .b true) := by
  obtain ⟨y0, ys0, rfl, h0, k0⟩ := h.cons_inv
  obtain rfl := k0.nil_inv
  obtain ⟨sh0, s0, h0⟩ := h0
  rw [shp_23] at s0
  cases s0
  unfold OkA at h0
  rw [ag_23] at h0
  obtain ⟨_, rfl, h0⟩ := h0
  obtain ⟨a0, rfl, b0⟩ := okc_23 h0
  exact ok3.2 _ _ (tells_eq inj3 (a := a0) (law3 a0 ))

theorem FnExactActText_door (os : Os) (args : Array Value) : laidMetH Tryd.prog Rows.fnExactActTextRow.laid ((World.doorLaid Tryd.prog 24 os).forCall (fun _ _ => 0) ⟨#[], args, []⟩).memory :=
  laidMetH_of_parts3 (fuel := 8) (laidMet_of_run' 8 (by kernel_rfl) (by kernel_rfl)) (by kernel_rfl) (by kernel_rfl)
theorem FnExactActText_glob {W : World} (h : laidMetH Tryd.prog Rows.fnExactActTextRow.laid W) (hsh : W.ShapedOpen Tryd.prog) : Glob Tryd.prog W := by
  rw [MakeChecks.laidMetH_plain _ _ _ (by kernel_rfl)] at h
  exact ⟨fun g hg => Lib.tabIs_of_head (k := .u64) (zs := Lib.pow10Tab) (show Tryd.prog.globalNamed "internal/strconv.uint64pow10" = some 0 by kernel_rfl) (show (Tryd.prog.globals[0]?).map (·.type) = some 97 by kernel_rfl) Tryd.underlying97 Tryd.underlying89 (by kernel_rfl) (by kernel_rfl) (h.tail.tail), fun g hg => (by have : Tryd.prog.globalNamed "strconv.ErrSyntax" = none := (by kernel_rfl); rw [this] at hg; cases hg), fun g hg => (by have : Tryd.prog.globalNamed "strconv.ErrRange" = none := (by kernel_rfl); rw [this] at hg; cases hg), int_var (z := 0) (t := 3) hsh (show Tryd.prog.globalNamed "internal/bytealg.MaxLen" = some 1 by kernel_rfl) (by kernel_rfl) (by kernel_rfl) (by kernel_rfl) (by kernel_rfl) Tryd.underlying3⟩

set_option maxRecDepth 100000 in
theorem FnExactActText_lifted (os : Os) (started : os.Started) (H : Type) (enc : TypeId × Value → H) :
    ReturnsInHanded {} Tryd.checked os 3 .any (fun w args => (Rows.fnExactActTextSpec.pre enc Tryd.prog Tryd.f3 [] false w args ∧ laidMetH Tryd.prog Rows.fnExactActTextRow.laid w) ∧ sizedMet enc Tryd.prog Tryd.f3 (OpenSpec.ofChange Rows.fnExactActTextSpec) false w args) (Rows.fnExactActTextSpec.post enc Tryd.prog Tryd.f3 false true false false) := by
  refine handed_laid (C := Tryd.checked) (X := fun w _ => laidMetH Tryd.prog Rows.fnExactActTextRow.laid w) (fun _ _ _ hh h => h.of_heap hh) own started (by kernel_rfl) Tryd.func3
    (ChangeSpec.witness_shaped (enc := enc) (C := Tryd.checked) (os := os) (X := fun w _ => laidMetH Tryd.prog Rows.fnExactActTextRow.laid w) false (World.doorLaid Tryd.prog 24 os) #[.agg #[.int .i64 0, .int .i64 0, .int .i64 0]] 8 rfl (World.shaped_of_RefB (by kernel_rfl) (by kernel_rfl)) (by kernel_rfl) (by kernel_rfl) (by kernel_rfl) (FnExactActText_door os _)) ?_
  intro W base args ds gs before hL hsh hval0 hW
  have hval : ∀ (j : Nat) t v, Tryd.f3.params[j]? = some t → args[j]? = some v → Value.okWide Tryd.prog W .any base t v := hval0
  have hW' := hW
  obtain ⟨p, q, hA0, hV, rfl, hfz, hnd⟩ := hW
  have hA : DataW.TrodAll enc Tryd.prog W 0 (fun _ => true) true Tryd.f3.params.toList args.toList ds p := hA0
  rw [Tryd.params3] at hA hval
  obtain ⟨xs, hS, hOk⟩ := args_S (by kernel_rfl) (fun j t v a b => hval j t v (by simpa using a) (by simpa using b)) hA
  obtain ⟨rfl, rfl⟩ := trodVars_none hV
  have hlen : ds.length = 1 := by
    obtain ⟨v0, vs0, d0, ds0, p0, q0, _, hds, _, _, r0⟩ := trodAll_cons hA
    obtain ⟨_, rfl, _⟩ := trodAll_nil r0
    rw [hds]; rfl
  refine ((FnExactActText_walk xs hOk).law hS (FnExactActText_glob hL hsh)).mono fun e W' ⟨he, bel⟩ => ?_
  subst he
  have hB := args_behind laidOut bel (by kernel_rfl) hA
  have hds : ∃ d0, ds = [d0] := by
    match ds, hlen with
    | [d0], _ => exact ⟨d0, rfl⟩
  obtain ⟨d0, rfl⟩ := hds
  exact ⟨_, rfl, _, _, _, [], _, [], hW', trodAll_mk1 (shut_bool Tryd.underlying4 _), hB, rfl, bel.frame _, fun h => by cases h⟩

theorem FnExactActText_row : Rows.FnExactActTextSaid :=
  OpenClaim.holds_of_wide 3 Tryd.f3 rfl rfl rfl rfl rfl rfl rfl ⟨rfl, rfl, rfl, rfl, rfl⟩ rfl rfl rfl rfl rfl (by kernel_rfl) Tryd.func3 (by kernel_rfl)
    (of_decide_eq_true (by kernel_rfl)) (by unfold Func.isWrapper; first | (rw [if_pos (by decide +kernel)]; kernel_rfl) | (rw [if_neg (by decide +kernel)]; exact ⟨rfl, rfl⟩))
    (fun os started H enc _ => FnExactActText_lifted os started H enc)

theorem FnExactActText_proved : Rows.FnExactActTextCardSaid :=
  Claim7.holds_tied_plain_at .later [] [.data, .data, .data] true (true, "16e5b94847590dc59a777d392f2a9cc4c353c95171a4b05e5dc470e977ebcf7e") false
    FnExactActText_row (fun _ h => by cases h) (by kernel_rfl) (fun _ h => by cases h) fnExactActText_row_tie rfl ⟨rfl, rfl⟩ (by kernel_rfl) rfl
    (fun f fn hf hfn => by
      obtain rfl : f = 3 := Option.some.inj ((show Tryd.prog.funcNamed "loop.example/g01229/laws.FnExactActText" = some 3 by kernel_rfl).symm.trans hf) |>.symm
      obtain rfl : fn = Tryd.f3 := (Option.some.inj (Tryd.func3.symm.trans hfn)).symm
      exact ⟨by kernel_rfl, fun j t ht => by
        rw [Tryd.params3] at ht
        have hm : t ∈ [23] := by simpa using Array.mem_of_getElem? ht
        have hall : ([23].all fun u => !Tryd.prog.wantsStandIn u) = true := by kernel_rfl
        exact (show Tryd.prog.wantsStandIn t = false by simpa using List.all_eq_true.1 hall t hm)⟩)
    (by kernel_rfl)

end Go.Proofs.YtaajogkciipnjaaDoor
