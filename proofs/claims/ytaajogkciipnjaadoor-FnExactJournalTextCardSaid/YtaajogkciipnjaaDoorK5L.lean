/- The law FnExactJournalText holds for every input. No conditions. -/
import Derived.Test.YtaajogkciipnjaaDoorK5Pj
import Derived.Test.YtaajogkciipnjaaDoorVxEnd
import Derived.Test.YtaajogkciipnjaaDoorRows
import Derived.WalkKit
import Derived.ProofKit
import Derived.Test.YtaajogkciipnjaaDoorCards
import Derived.Test.YtaajogkciipnjaaDoorTie
import Derived.LaidMore
import Derived.OpenShut
import Derived.Stop.Joined
import Derived.Stop.LaidErr
import Derived.SevenTiedAt
import Derived.Test.YtaajogkciipnjaaDoorVxCard
namespace Go.Proofs.YtaajogkciipnjaaDoor
open Go.ChangeShapes Go.WideShapes Go.ChangeAt Go.RowKit Go.VL
set_option linter.unusedVariables false
set_option linter.unusedSimpArgs false

theorem own : ownKnob Tryd.prog.godebug = none := by kernel_rfl
theorem laidOut : laidOutB Tryd.prog = true := by kernel_rfl
theorem rows_of {α : Type} {c : α → List V} {sh : Sh} {B : α → Prop} (h1 : ∀ x, Ok sh x → ∃ a, x = c a ∧ B a) : ∀ {es : List (List V)}, (∀ x ∈ es, Ok sh x) → ∃ xs, es = rows c xs ∧ ∀ y ∈ xs, B y
  | [], _ => ⟨[], rfl, by simp⟩
  | e :: es, h => by
    obtain ⟨a, rfl, ha⟩ := h1 e (h e (by simp))
    obtain ⟨xs, rfl, hx⟩ := rows_of h1 (es := es) fun x hx => h x (by simp [hx])
    exact ⟨a :: xs, rfl, by simpa using ⟨ha, hx⟩⟩
@[simp] def cl_cT67 (x : List T67) : List V := [.sl 5 (rows cT67 x)]
instance : Snp cl_cT67 := ⟨fun x => by simp, fun x => by simp⟩
@[simp] theorem cl_cT67_len {x : List T67} : (cl_cT67 x).length = 1 := rfl
@[simp] theorem cl_cT67_set {xs : List (List T67)} {i : Nat} {a : List T67} : (rows cl_cT67 xs).set i [.sl 5 (rows cT67 a)] = rows cl_cT67 (xs.set i a) := rows_set (c := cl_cT67) (x := a)
@[simp] theorem cl_cT67_snoc {xs : List (List T67)} {a : List T67} : rows cl_cT67 xs ++ [[.sl 5 (rows cT67 a)]] = rows cl_cT67 (xs ++ [a]) := rows_snoc (c := cl_cT67) (x := a)
@[simp] theorem cl_cT67_rep {n : Nat} {a : List T67} : List.replicate n [.sl 5 (rows cT67 a)] = rows cl_cT67 (List.replicate n a) := rows_rep (c := cl_cT67) (x := a)
theorem cl_cT67_inj (x y : List T67) (h : cl_cT67 x = cl_cT67 y) : x = y := by
  simp only [cl_cT67, List.cons.injEq, V.i.injEq, V.b.injEq, V.f.injEq, V.str.injEq, V.sl.injEq, V.own.injEq, true_and, and_true] at h
  simp_all [ri cT67_inj]
@[simp] def cb_ (x : Bool) : List V := [.b x]
instance : Pln cb_ := ⟨fun x => by simp⟩
@[simp] theorem cb__len {x : Bool} : (cb_ x).length = 1 := rfl
@[simp] theorem cb__set {xs : List Bool} {i : Nat} {a : Bool} : (rows cb_ xs).set i [.b a] = rows cb_ (xs.set i a) := rows_set (c := cb_) (x := a)
@[simp] theorem cb__snoc {xs : List Bool} {a : Bool} : rows cb_ xs ++ [[.b a]] = rows cb_ (xs ++ [a]) := rows_snoc (c := cb_) (x := a)
@[simp] theorem cb__rep {n : Nat} {a : Bool} : List.replicate n [.b a] = rows cb_ (List.replicate n a) := rows_rep (c := cb_) (x := a)
theorem cb__inj (x y : Bool) (h : cb_ x = cb_ y) : x = y := by
  simp only [cb_, List.cons.injEq, V.i.injEq, V.b.injEq, V.f.injEq, V.str.injEq, V.sl.injEq, V.own.injEq, true_and, and_true] at h
  simp_all
@[simp] def ci_u32 (x : Int) : List V := [.i .u32 x]
instance : Pln ci_u32 := ⟨fun x => by simp⟩
@[simp] theorem ci_u32_len {x : Int} : (ci_u32 x).length = 1 := rfl
@[simp] theorem ci_u32_set {xs : List Int} {i : Nat} {a : Int} : (rows ci_u32 xs).set i [.i .u32 a] = rows ci_u32 (xs.set i a) := rows_set (c := ci_u32) (x := a)
@[simp] theorem ci_u32_snoc {xs : List Int} {a : Int} : rows ci_u32 xs ++ [[.i .u32 a]] = rows ci_u32 (xs ++ [a]) := rows_snoc (c := ci_u32) (x := a)
@[simp] theorem ci_u32_rep {n : Nat} {a : Int} : List.replicate n [.i .u32 a] = rows ci_u32 (List.replicate n a) := rows_rep (c := ci_u32) (x := a)
theorem ci_u32_inj (x y : Int) (h : ci_u32 x = ci_u32 y) : x = y := by
  simp only [ci_u32, List.cons.injEq, V.i.injEq, V.b.injEq, V.f.injEq, V.str.injEq, V.sl.injEq, V.own.injEq, true_and, and_true] at h
  simp_all
theorem okc_4 {x : List V} (h : Ok (.bool) x) : ∃ v : Bool, x = cb_ v ∧ True := by
  obtain ⟨b, rfl⟩ := h
  exact ⟨b, rfl, trivial⟩
theorem okc_60 {x : List V} (h : Ok (.int .u32) x) : ∃ v : Int, x = ci_u32 v ∧ True := by
  obtain ⟨b, rfl, hb⟩ := h
  exact ⟨b, rfl, trivial⟩
theorem okc_2 {x : List V} (h : Ok (.int .i64) x) : ∃ v : Int, x = ci_i64 v ∧ True := by
  obtain ⟨b, rfl, hb⟩ := h
  exact ⟨b, rfl, trivial⟩
theorem okc_23 {x : List V} (h : Ok (.seq (.int .i64) (.seq (.int .i64) (.seq (.int .i64) (.unit)))) x) : ∃ v : T25, x = cT25 v ∧ True := by
  obtain ⟨_, _, rfl, h0, h⟩ := h
  obtain ⟨v0, rfl, k0⟩ := okc_2 h0
  obtain ⟨_, _, rfl, h1, h⟩ := h
  obtain ⟨v1, rfl, k1⟩ := okc_2 h1
  obtain ⟨_, _, rfl, h2, h⟩ := h
  obtain ⟨v2, rfl, k2⟩ := okc_2 h2
  cases h
  exact ⟨⟨v0, v1, v2⟩, rfl, trivial⟩
theorem okc_67 {x : List V} (h : Ok (.seq (.bool) (.seq (.int .u32) (.seq (.seq (.int .i64) (.seq (.int .i64) (.seq (.int .i64) (.unit)))) (.unit)))) x) : ∃ v : T67, x = cT67 v ∧ True := by
  obtain ⟨_, _, rfl, h0, h⟩ := h
  obtain ⟨v0, rfl, k0⟩ := okc_4 h0
  obtain ⟨_, _, rfl, h1, h⟩ := h
  obtain ⟨v1, rfl, k1⟩ := okc_60 h1
  obtain ⟨_, _, rfl, h2, h⟩ := h
  obtain ⟨v2, rfl, k2⟩ := okc_23 h2
  cases h
  exact ⟨⟨v0, v1, v2⟩, rfl, trivial⟩
theorem okc_37 {x : List V} (h : Ok (.slice 5 (.seq (.bool) (.seq (.int .u32) (.seq (.seq (.int .i64) (.seq (.int .i64) (.seq (.int .i64) (.unit)))) (.unit))))) x) : ∃ v : List T67, x = cl_cT67 v ∧ v.length ≤ maxLen := by
  obtain ⟨es, rfl, h1, h2, h3⟩ := h
  obtain ⟨xs, rfl, h4⟩ := rows_of (fun x hx => okc_67 hx) h3
  exact ⟨xs, rfl, by simpa using h1⟩
theorem shp_37 : shp Tryd.prog 12 37 = some (.slice 5 (.seq (.bool) (.seq (.int .u32) (.seq (.seq (.int .i64) (.seq (.int .i64) (.seq (.int .i64) (.unit)))) (.unit))))) := by kernel_rfl
set_option maxRecDepth 100000 in
theorem FnExactJournalText_walk (xs : List V) (h : OkAll Tryd.prog [37] xs) : VCalls Tryd.prog 5 xs (fun r => r = .b true) := by
  obtain ⟨y0, ys0, rfl, h0, k0⟩ := h.cons_inv
  obtain rfl := k0.nil_inv
  obtain ⟨sh0, s0, h0⟩ := h0
  rw [shp_37] at s0
  cases s0
  unfold OkA at h0
  rw [ag_37] at h0
  obtain ⟨a0, e0, b0⟩ := okc_37 h0
  cases e0
  exact ok5.2 _ _ (tells_eq inj5 (a := a0) (law5 a0 b0))

theorem FnExactJournalText_door (os : Os) (args : Array Value) : laidMetH Tryd.prog Rows.fnExactJournalTextRow.laid ((World.doorLaid Tryd.prog 24 os).forCall (fun _ _ => 0) ⟨#[], args, []⟩).memory :=
  laidMetH_of_parts3 (fuel := 8) (laidMet_of_run' 8 (by kernel_rfl) (by kernel_rfl)) (by kernel_rfl) (by kernel_rfl)
theorem FnExactJournalText_glob {W : World} (h : laidMetH Tryd.prog Rows.fnExactJournalTextRow.laid W) (hsh : W.ShapedOpen Tryd.prog) : Glob Tryd.prog W := by
  rw [MakeChecks.laidMetH_plain _ _ _ (by kernel_rfl)] at h
  exact ⟨fun g hg => Lib.tabIs_of_head (k := .u64) (zs := Lib.pow10Tab) (show Tryd.prog.globalNamed "internal/strconv.uint64pow10" = some 0 by kernel_rfl) (show (Tryd.prog.globals[0]?).map (·.type) = some 97 by kernel_rfl) Tryd.underlying97 Tryd.underlying89 (by kernel_rfl) (by kernel_rfl) (h.tail.tail), fun g hg => (by have : Tryd.prog.globalNamed "strconv.ErrSyntax" = none := (by kernel_rfl); rw [this] at hg; cases hg), fun g hg => (by have : Tryd.prog.globalNamed "strconv.ErrRange" = none := (by kernel_rfl); rw [this] at hg; cases hg), int_var (z := 0) (t := 3) hsh (show Tryd.prog.globalNamed "internal/bytealg.MaxLen" = some 1 by kernel_rfl) (by kernel_rfl) (by kernel_rfl) (by kernel_rfl) (by kernel_rfl) Tryd.underlying3⟩

set_option maxRecDepth 100000 in
theorem FnExactJournalText_lifted (os : Os) (started : os.Started) (H : Type) (enc : TypeId × Value → H) :
    ReturnsInHanded {} Tryd.checked os 5 .any (fun w args => (Rows.fnExactJournalTextSpec.pre enc Tryd.prog Tryd.f5 [] false w args ∧ laidMetH Tryd.prog Rows.fnExactJournalTextRow.laid w) ∧ sizedMet enc Tryd.prog Tryd.f5 (OpenSpec.ofChange Rows.fnExactJournalTextSpec) false w args) (Rows.fnExactJournalTextSpec.post enc Tryd.prog Tryd.f5 false true false false) := by
  refine handed_laid (C := Tryd.checked) (X := fun w _ => laidMetH Tryd.prog Rows.fnExactJournalTextRow.laid w) (fun _ _ _ hh h => h.of_heap hh) own started (by kernel_rfl) Tryd.func5
    (ChangeSpec.witness_shaped (enc := enc) (C := Tryd.checked) (os := os) (X := fun w _ => laidMetH Tryd.prog Rows.fnExactJournalTextRow.laid w) false (World.doorLaid Tryd.prog 24 os) #[.slice none 0 0] 8 rfl (World.shaped_of_RefB (by kernel_rfl) (by kernel_rfl)) (by kernel_rfl) (by kernel_rfl) (by kernel_rfl) (FnExactJournalText_door os _)) ?_
  intro W base args ds gs before hL hsh hval0 hW
  have hval : ∀ (j : Nat) t v, Tryd.f5.params[j]? = some t → args[j]? = some v → Value.okWide Tryd.prog W .any base t v := hval0
  have hW' := hW
  obtain ⟨p, q, hA0, hV, rfl, hfz, hnd⟩ := hW
  have hA : DataW.TrodAll enc Tryd.prog W 0 (fun _ => true) true Tryd.f5.params.toList args.toList ds p := hA0
  rw [Tryd.params5] at hA hval
  obtain ⟨xs, hS, hOk⟩ := args_S (by kernel_rfl) (fun j t v a b => hval j t v (by simpa using a) (by simpa using b)) hA
  obtain ⟨rfl, rfl⟩ := trodVars_none hV
  have hlen : ds.length = 1 := by
    obtain ⟨v0, vs0, d0, ds0, p0, q0, _, hds, _, _, r0⟩ := trodAll_cons hA
    obtain ⟨_, rfl, _⟩ := trodAll_nil r0
    rw [hds]; rfl
  refine ((FnExactJournalText_walk xs hOk).law hS (FnExactJournalText_glob hL hsh)).mono fun e W' ⟨he, bel⟩ => ?_
  subst he
  have hB := args_behind laidOut bel (by kernel_rfl) hA
  have hds : ∃ d0, ds = [d0] := by
    match ds, hlen with
    | [d0], _ => exact ⟨d0, rfl⟩
  obtain ⟨d0, rfl⟩ := hds
  exact ⟨_, rfl, _, _, _, [], _, [], hW', trodAll_mk1 (shut_bool Tryd.underlying4 _), hB, rfl, bel.frame _, fun h => by cases h⟩

theorem FnExactJournalText_row : Rows.FnExactJournalTextSaid :=
  OpenClaim.holds_of_wide 5 Tryd.f5 rfl rfl rfl rfl rfl rfl rfl ⟨rfl, rfl, rfl, rfl, rfl⟩ rfl rfl rfl rfl rfl (by kernel_rfl) Tryd.func5 (by kernel_rfl)
    (of_decide_eq_true (by kernel_rfl)) (by unfold Func.isWrapper; first | (rw [if_pos (by decide +kernel)]; kernel_rfl) | (rw [if_neg (by decide +kernel)]; exact ⟨rfl, rfl⟩))
    (fun os started H enc _ => FnExactJournalText_lifted os started H enc)

theorem FnExactJournalText_proved : Rows.FnExactJournalTextCardSaid :=
  Claim7.holds_tied_plain_at .later [] [.data, .data, .data] true (true, "16e5b94847590dc59a777d392f2a9cc4c353c95171a4b05e5dc470e977ebcf7e") false
    FnExactJournalText_row (fun _ h => by cases h) (by kernel_rfl) (fun _ h => by cases h) fnExactJournalText_row_tie rfl ⟨rfl, rfl⟩ (by kernel_rfl) rfl
    (fun f fn hf hfn => by
      obtain rfl : f = 5 := Option.some.inj ((show Tryd.prog.funcNamed "loop.example/g01229/laws.FnExactJournalText" = some 5 by kernel_rfl).symm.trans hf) |>.symm
      obtain rfl : fn = Tryd.f5 := (Option.some.inj (Tryd.func5.symm.trans hfn)).symm
      exact ⟨by kernel_rfl, fun j t ht => by
        rw [Tryd.params5] at ht
        have hm : t ∈ [37] := by simpa using Array.mem_of_getElem? ht
        have hall : ([37].all fun u => !Tryd.prog.wantsStandIn u) = true := by kernel_rfl
        exact (show Tryd.prog.wantsStandIn t = false by simpa using List.all_eq_true.1 hall t hm)⟩)
    (by kernel_rfl)

end Go.Proofs.YtaajogkciipnjaaDoor
