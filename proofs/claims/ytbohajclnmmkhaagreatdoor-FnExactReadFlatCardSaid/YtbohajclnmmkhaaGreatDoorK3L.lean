/- The law FnExactReadFlat holds for every input. No conditions. -/
import Derived.Test.YtbohajclnmmkhaaGreatDoorK3Qb
import Derived.Test.YtbohajclnmmkhaaGreatDoorVxEnd
import Derived.Test.YtbohajclnmmkhaaGreatDoorRows
import Derived.WalkKit
import Derived.ProofKit
import Derived.Test.YtbohajclnmmkhaaGreatDoorCards
import Derived.Test.YtbohajclnmmkhaaGreatDoorTie
import Derived.LaidMore
import Derived.OpenShut
import Derived.Stop.Joined
import Derived.Stop.LaidErr
import Derived.Lay
import Derived.LaidLaws
import Derived.SevenTiedAt
import Derived.Test.YtbohajclnmmkhaaGreatDoorVxCard
namespace Go.Proofs.YtbohajclnmmkhaaGreatDoor
open Go.ChangeShapes Go.WideShapes Go.ChangeAt Go.RowKit Go.VL
set_option linter.unusedVariables false
set_option linter.unusedSimpArgs false

theorem own : ownKnob Tryz.prog.godebug = none := by kernel_rfl
theorem laidOut : laidOutB Tryz.prog = true := by kernel_rfl
theorem rows_of {α : Type} {c : α → List V} {sh : Sh} {B : α → Prop} (h1 : ∀ x, Ok sh x → ∃ a, x = c a ∧ B a) : ∀ {es : List (List V)}, (∀ x ∈ es, Ok sh x) → ∃ xs, es = rows c xs ∧ ∀ y ∈ xs, B y
  | [], _ => ⟨[], rfl, by simp⟩
  | e :: es, h => by
    obtain ⟨a, rfl, ha⟩ := h1 e (h e (by simp))
    obtain ⟨xs, rfl, hx⟩ := rows_of h1 (es := es) fun x hx => h x (by simp [hx])
    exact ⟨a :: xs, rfl, by simpa using ⟨ha, hx⟩⟩
theorem okc_9 {x : List V} (h : Ok (.str) x) : ∃ v : ByteArray, x = cs_ v ∧ v.size ≤ maxLen := by
  obtain ⟨b, rfl, hb⟩ := h
  exact ⟨b, rfl, hb⟩
theorem shp_9 : shp Tryz.prog 12 9 = some (.str) := by kernel_rfl
set_option maxRecDepth 100000 in
theorem FnExactReadFlat_walk (xs : List V) (h : OkAll Tryz.prog [9] xs) : VCalls Tryz.prog 3 xs (fun r => r = .b true) := by
  obtain ⟨y0, ys0, rfl, h0, k0⟩ := h.cons_inv
  obtain rfl := k0.nil_inv
  obtain ⟨sh0, s0, h0⟩ := h0
  rw [shp_9] at s0
  cases s0
  unfold OkA at h0
  rw [ag_9] at h0
  obtain ⟨a0, e0, b0⟩ := okc_9 h0
  cases e0
  exact ok3.2 _ _ (tells_eq inj3 (a := a0) (law3 a0 b0))
theorem star_ : "*" ++ "errors.errorString" = "*errors.errorString" := by decide
theorem row_err (u : TypeId) (h : Tryz.prog.typeName? 3 u = some "*errors.errorString") : u = 147 :=
  typeName_ptr_named (nm := "errors.errorString") (by rw [star_]; kernel_rfl) (by kernel_rfl) (by decide) u (by rw [star_]; exact h)

theorem FnExactReadFlat_door (os : Os) (args : Array Value) : laidMetH Tryz.prog Rows.fnExactReadFlatRow.laid ((World.laidAll Tryz.prog os Rows.fnExactReadFlatRow.laid).forCall (fun _ _ => 0) ⟨#[], args, []⟩).memory := by
  rw [MakeChecks.laidMetH_plain _ _ _ (by kernel_rfl)]
  exact laidMet_laidAll _ (by kernel_rfl) (by kernel_rfl)
theorem FnExactReadFlat_glob {W : World} (h : laidMetH Tryz.prog Rows.fnExactReadFlatRow.laid W) (hsh : W.ShapedOpen Tryz.prog) : Glob Tryz.prog W := by
  rw [MakeChecks.laidMetH_plain _ _ _ (by kernel_rfl)] at h
  exact ⟨fun g hg => Lib.tabIs_of_head (k := .u64) (zs := Lib.pow10Tab) (show Tryz.prog.globalNamed "internal/strconv.uint64pow10" = some 3 by kernel_rfl) (show (Tryz.prog.globals[3]?).map (·.type) = some 140 by kernel_rfl) Tryz.underlying140 Tryz.underlying114 (by kernel_rfl) (by kernel_rfl) (h.tail.tail), fun g hg => (by
    obtain ⟨a, s, h1, _⟩ := laid_sentinel (h.tail.tail.tail.tail.tail) (show Tryz.prog.globalNamed "strconv.ErrSyntax" = some 1 by kernel_rfl) (show (Tryz.prog.globals[1]?).map (·.type) = some 78 by kernel_rfl) Tryz.underlying78 row_err Tryz.underlying147 Tryz.underlying149 rfl rfl Tryz.underlying9 (by kernel_rfl) (by kernel_rfl)
    exact ⟨_, _, h1⟩), fun g hg => (by
    obtain ⟨a, s, h1, _⟩ := laid_sentinel (h.tail.tail.tail.tail) (show Tryz.prog.globalNamed "strconv.ErrRange" = some 2 by kernel_rfl) (show (Tryz.prog.globals[2]?).map (·.type) = some 78 by kernel_rfl) Tryz.underlying78 row_err Tryz.underlying147 Tryz.underlying149 rfl rfl Tryz.underlying9 (by kernel_rfl) (by kernel_rfl)
    exact ⟨_, _, h1⟩), int_var (z := 0) (t := 3) hsh (show Tryz.prog.globalNamed "internal/bytealg.MaxLen" = some 4 by kernel_rfl) (by kernel_rfl) (by kernel_rfl) (by kernel_rfl) (by kernel_rfl) Tryz.underlying3⟩

set_option maxRecDepth 100000 in
theorem FnExactReadFlat_lifted (os : Os) (started : os.Started) (H : Type) (enc : TypeId × Value → H) :
    ReturnsInHanded {} Tryz.checked os 3 .any (fun w args => (Rows.fnExactReadFlatSpec.pre enc Tryz.prog Tryz.f3 [] false w args ∧ laidMetH Tryz.prog Rows.fnExactReadFlatRow.laid w) ∧ sizedMet enc Tryz.prog Tryz.f3 (OpenSpec.ofChange Rows.fnExactReadFlatSpec) false w args) (Rows.fnExactReadFlatSpec.post enc Tryz.prog Tryz.f3 false true false false) := by
  refine handed_laid (C := Tryz.checked) (X := fun w _ => laidMetH Tryz.prog Rows.fnExactReadFlatRow.laid w) (fun _ _ _ hh h => h.of_heap hh) own started (by kernel_rfl) Tryz.func3
    (ChangeSpec.witness_shaped (enc := enc) (C := Tryz.checked) (os := os) (X := fun w _ => laidMetH Tryz.prog Rows.fnExactReadFlatRow.laid w) false (World.laidAll Tryz.prog os Rows.fnExactReadFlatRow.laid) #[.string ByteArray.empty] 8 (World.laidAll_os _ _ _) (World.shaped_of_ZipB (by kernel_rfl) (by kernel_rfl)) (by kernel_rfl) (by kernel_rfl) (by kernel_rfl) (FnExactReadFlat_door os _)) ?_
  intro W base args ds gs before hL hsh hval0 hW
  have hval : ∀ (j : Nat) t v, Tryz.f3.params[j]? = some t → args[j]? = some v → Value.okWide Tryz.prog W .any base t v := hval0
  have hW' := hW
  obtain ⟨p, q, hA0, hV, rfl, hfz, hnd⟩ := hW
  have hA : DataW.TrodAll enc Tryz.prog W 0 (fun _ => true) true Tryz.f3.params.toList args.toList ds p := hA0
  rw [Tryz.params3] at hA hval
  obtain ⟨xs, hS, hOk⟩ := args_S (by kernel_rfl) (fun j t v a b => hval j t v (by simpa using a) (by simpa using b)) hA
  obtain ⟨rfl, rfl⟩ := trodVars_none hV
  have hlen : ds.length = 1 := by
    obtain ⟨v0, vs0, d0, ds0, p0, q0, _, hds, _, _, r0⟩ := trodAll_cons hA
    obtain ⟨_, rfl, _⟩ := trodAll_nil r0
    rw [hds]; rfl
  refine ((FnExactReadFlat_walk xs hOk).law hS (FnExactReadFlat_glob hL hsh)).mono fun e W' ⟨he, bel⟩ => ?_
  subst he
  have hB := args_behind laidOut bel (by kernel_rfl) hA
  have hds : ∃ d0, ds = [d0] := by
    match ds, hlen with
    | [d0], _ => exact ⟨d0, rfl⟩
  obtain ⟨d0, rfl⟩ := hds
  exact ⟨_, rfl, _, _, _, [], _, [], hW', trodAll_mk1 (shut_bool Tryz.underlying4 _), hB, rfl, bel.frame _, fun h => by cases h⟩

theorem FnExactReadFlat_row : Rows.FnExactReadFlatSaid :=
  OpenClaim.holds_of_wide 3 Tryz.f3 rfl rfl rfl rfl rfl rfl rfl ⟨rfl, rfl, rfl, rfl, rfl⟩ rfl rfl rfl rfl rfl (by kernel_rfl) Tryz.func3 (by kernel_rfl)
    (of_decide_eq_true (by kernel_rfl)) (by unfold Func.isWrapper; first | (rw [if_pos (by decide +kernel)]; kernel_rfl) | (rw [if_neg (by decide +kernel)]; exact ⟨rfl, rfl⟩))
    (fun os started H enc _ => FnExactReadFlat_lifted os started H enc)

theorem FnExactReadFlat_proved : Rows.FnExactReadFlatCardSaid :=
  Claim7.holds_tied_plain_at .later [] [.data, .data, .data, .data, .sentinel, .sentinel, .pinned] true (true, "e205c0dbc221c437e31f910d09f3d50fa0ad436a5552e99674d40c901293e3bf") true
    FnExactReadFlat_row (fun _ h => by cases h) (by kernel_rfl) (fun _ h => by cases h) fnExactReadFlat_row_tie rfl ⟨rfl, rfl⟩ (by kernel_rfl) rfl
    (fun f fn hf hfn => by
      obtain rfl : f = 3 := Option.some.inj ((show Tryz.prog.funcNamed "loop.example/g01229/laws.FnExactReadFlat" = some 3 by kernel_rfl).symm.trans hf) |>.symm
      obtain rfl : fn = Tryz.f3 := (Option.some.inj (Tryz.func3.symm.trans hfn)).symm
      exact ⟨by kernel_rfl, fun j t ht => by
        rw [Tryz.params3] at ht
        have hm : t ∈ [9] := by simpa using Array.mem_of_getElem? ht
        have hall : ([9].all fun u => !Tryz.prog.wantsStandIn u) = true := by kernel_rfl
        exact (show Tryz.prog.wantsStandIn t = false by simpa using List.all_eq_true.1 hall t hm)⟩)
    (by kernel_rfl)

end Go.Proofs.YtbohajclnmmkhaaGreatDoor
