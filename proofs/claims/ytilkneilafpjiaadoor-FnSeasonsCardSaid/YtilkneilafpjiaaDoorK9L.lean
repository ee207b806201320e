/- The law FnSeasons holds for every input. No conditions. -/
import Derived.Test.YtilkneilafpjiaaDoorK9Pz
import Derived.Test.YtilkneilafpjiaaDoorVxEnd
import Derived.Test.YtilkneilafpjiaaDoorRows
import Derived.WalkKit
import Derived.ProofKit
import Derived.Test.YtilkneilafpjiaaDoorCards
import Derived.Test.YtilkneilafpjiaaDoorTie
import Derived.LaidMore
import Derived.OpenShut
import Derived.Stop.Joined
import Derived.Stop.LaidErr
import Derived.Lay
import Derived.LaidLaws
import Derived.SevenTiedAt
import Derived.Test.YtilkneilafpjiaaDoorVxCard
namespace Go.Proofs.YtilkneilafpjiaaDoor
open Go.ChangeShapes Go.WideShapes Go.ChangeAt Go.RowKit Go.VL
set_option linter.unusedVariables false
set_option linter.unusedSimpArgs false

theorem own : ownKnob Tryd.prog.godebug = none := by kernel_rfl
theorem laidOut : laidOutB Tryd.prog = true := by kernel_rfl
theorem rows_of {α : Type} {c : α → List V} {sh : Sh} {B : α → Prop} (h1 : ∀ x, Ok sh x → ∃ a, x = c a ∧ B a) : ∀ {es : List (List V)}, (∀ x ∈ es, Ok sh x) → ∃ xs, es = rows c xs ∧ ∀ y ∈ xs, B y
  | [], _ => ⟨[], rfl, by simp⟩
  | e :: es, h => by
    obtain ⟨a, rfl, ha⟩ := h1 e (h e (by simp))
    obtain ⟨xs, rfl, hx⟩ := rows_of h1 (es := es) fun x hx => h x (by simp [hx])
    exact ⟨a :: xs, rfl, by simpa using ⟨ha, hx⟩⟩
@[simp] def cl_ci_u8 (x : List Int) : List V := [.sl 1 (rows ci_u8 x)]
instance : Snp cl_ci_u8 := ⟨fun x => by simp, fun x => by simp⟩
@[simp] theorem cl_ci_u8_len {x : List Int} : (cl_ci_u8 x).length = 1 := rfl
@[simp] theorem cl_ci_u8_set {xs : List (List Int)} {i : Nat} {a : List Int} : (rows cl_ci_u8 xs).set i [.sl 1 (rows ci_u8 a)] = rows cl_ci_u8 (xs.set i a) := rows_set (c := cl_ci_u8) (x := a)
@[simp] theorem cl_ci_u8_snoc {xs : List (List Int)} {a : List Int} : rows cl_ci_u8 xs ++ [[.sl 1 (rows ci_u8 a)]] = rows cl_ci_u8 (xs ++ [a]) := rows_snoc (c := cl_ci_u8) (x := a)
@[simp] theorem cl_ci_u8_rep {n : Nat} {a : List Int} : List.replicate n [.sl 1 (rows ci_u8 a)] = rows cl_ci_u8 (List.replicate n a) := rows_rep (c := cl_ci_u8) (x := a)
theorem cl_ci_u8_inj (x y : List Int) (h : cl_ci_u8 x = cl_ci_u8 y) : x = y := by
  simp only [cl_ci_u8, List.cons.injEq, V.i.injEq, V.b.injEq, V.f.injEq, V.str.injEq, V.sl.injEq, V.own.injEq, true_and, and_true] at h
  simp_all [ri ci_u8_inj]
theorem okc_5 {x : List V} (h : Ok (.int .u8) x) : ∃ v : Int, x = ci_u8 v ∧ (Lit.int .u8 v).wf = true := by
  obtain ⟨b, rfl, hb⟩ := h
  exact ⟨b, rfl, hb⟩
theorem okc_54 {x : List V} (h : Ok (.slice 1 (.int .u8)) x) : ∃ v : List Int, x = cl_ci_u8 v ∧ v.length ≤ maxLen ∧ (∀ y ∈ v, (Lit.int .u8 y).wf = true) := by
  obtain ⟨es, rfl, h1, h2, h3⟩ := h
  obtain ⟨xs, rfl, h4⟩ := rows_of (fun x hx => okc_5 hx) h3
  exact ⟨xs, rfl, by simpa using h1, h4⟩
theorem shp_54 : shp Tryd.prog 12 54 = some (.slice 1 (.int .u8)) := by kernel_rfl
set_option maxRecDepth 100000 in
theorem FnSeasons_walk (xs : List V) (h : OkAll Tryd.prog [54, 54] xs) : VCalls Tryd.prog 9 xs (fun r => r = .b true) := by
  obtain ⟨y0, ys0, rfl, h0, k0⟩ := h.cons_inv
  obtain ⟨y1, ys1, rfl, h1, k1⟩ := k0.cons_inv
  obtain rfl := k1.nil_inv
  obtain ⟨sh0, s0, h0⟩ := h0
  rw [shp_54] at s0
  cases s0
  unfold OkA at h0
  rw [ag_54] at h0
  obtain ⟨a0, e0, b0⟩ := okc_54 h0
  cases e0
  obtain ⟨sh1, s1, h1⟩ := h1
  rw [shp_54] at s1
  cases s1
  unfold OkA at h1
  rw [ag_54] at h1
  obtain ⟨a1, e1, b1⟩ := okc_54 h1
  cases e1
  exact ok9.2 _ _ (tells_eq inj9 (a := (a0, a1)) (law9 a0 a1 b0 b1))
theorem star_ : "*" ++ "errors.errorString" = "*errors.errorString" := by decide
theorem row_err (u : TypeId) (h : Tryd.prog.typeName? 3 u = some "*errors.errorString") : u = 183 :=
  typeName_ptr_named (nm := "errors.errorString") (by rw [star_]; kernel_rfl) (by kernel_rfl) (by decide) u (by rw [star_]; exact h)

theorem FnSeasons_door (os : Os) (args : Array Value) : laidMetH Tryd.prog Rows.fnSeasonsRow.laid ((World.laidAll Tryd.prog os Rows.fnSeasonsRow.laid).forCall (fun _ _ => 0) ⟨#[], args, []⟩).memory := by
  rw [MakeChecks.laidMetH_plain _ _ _ (by kernel_rfl)]
  exact laidMet_laidAll _ (by kernel_rfl) (by kernel_rfl)
theorem FnSeasons_glob {W : World} (h : laidMetH Tryd.prog Rows.fnSeasonsRow.laid W) (hsh : W.ShapedOpen Tryd.prog) : Glob Tryd.prog W := by
  rw [MakeChecks.laidMetH_plain _ _ _ (by kernel_rfl)] at h
  exact ⟨fun g hg => Lib.tabIs_of_head (k := .u64) (zs := Lib.pow10Tab) (show Tryd.prog.globalNamed "internal/strconv.uint64pow10" = some 0 by kernel_rfl) (show (Tryd.prog.globals[0]?).map (·.type) = some 167 by kernel_rfl) Tryd.underlying167 Tryd.underlying137 (by kernel_rfl) (by kernel_rfl) (h.tail.tail), fun g hg => (by
    obtain ⟨a, s, h1, _⟩ := laid_sentinel (h.tail.tail.tail.tail.tail) (show Tryd.prog.globalNamed "strconv.ErrSyntax" = some 1 by kernel_rfl) (show (Tryd.prog.globals[1]?).map (·.type) = some 132 by kernel_rfl) Tryd.underlying132 row_err Tryd.underlying183 Tryd.underlying185 rfl rfl Tryd.underlying9 (by kernel_rfl) (by kernel_rfl)
    exact ⟨_, _, h1⟩), fun g hg => (by
    obtain ⟨a, s, h1, _⟩ := laid_sentinel (h.tail.tail.tail.tail) (show Tryd.prog.globalNamed "strconv.ErrRange" = some 2 by kernel_rfl) (show (Tryd.prog.globals[2]?).map (·.type) = some 132 by kernel_rfl) Tryd.underlying132 row_err Tryd.underlying183 Tryd.underlying185 rfl rfl Tryd.underlying9 (by kernel_rfl) (by kernel_rfl)
    exact ⟨_, _, h1⟩), int_var (z := 0) (t := 3) hsh (show Tryd.prog.globalNamed "internal/bytealg.MaxLen" = some 3 by kernel_rfl) (by kernel_rfl) (by kernel_rfl) (by kernel_rfl) (by kernel_rfl) Tryd.underlying3⟩

set_option maxRecDepth 100000 in
theorem FnSeasons_lifted (os : Os) (started : os.Started) (H : Type) (enc : TypeId × Value → H) :
    ReturnsInHanded {} Tryd.checked os 9 .any (fun w args => (Rows.fnSeasonsSpec.pre enc Tryd.prog Tryd.f9 [] false w args ∧ laidMetH Tryd.prog Rows.fnSeasonsRow.laid w) ∧ sizedMet enc Tryd.prog Tryd.f9 (OpenSpec.ofChange Rows.fnSeasonsSpec) false w args) (Rows.fnSeasonsSpec.post enc Tryd.prog Tryd.f9 false true false false) := by
  refine handed_laid (C := Tryd.checked) (X := fun w _ => laidMetH Tryd.prog Rows.fnSeasonsRow.laid w) (fun _ _ _ hh h => h.of_heap hh) own started (by kernel_rfl) Tryd.func9
    (ChangeSpec.witness_shaped (enc := enc) (C := Tryd.checked) (os := os) (X := fun w _ => laidMetH Tryd.prog Rows.fnSeasonsRow.laid w) false (World.laidAll Tryd.prog os Rows.fnSeasonsRow.laid) #[.slice none 0 0, .slice none 0 0] 8 (World.laidAll_os _ _ _) (World.shaped_of_ZipB (by kernel_rfl) (by kernel_rfl)) (by kernel_rfl) (by kernel_rfl) (by kernel_rfl) (FnSeasons_door os _)) ?_
  intro W base args ds gs before hL hsh hval0 hW
  have hval : ∀ (j : Nat) t v, Tryd.f9.params[j]? = some t → args[j]? = some v → Value.okWide Tryd.prog W .any base t v := hval0
  have hW' := hW
  obtain ⟨p, q, hA0, hV, rfl, hfz, hnd⟩ := hW
  have hA : DataW.TrodAll enc Tryd.prog W 0 (fun _ => true) true Tryd.f9.params.toList args.toList ds p := hA0
  rw [Tryd.params9] at hA hval
  obtain ⟨xs, hS, hOk⟩ := args_S (by kernel_rfl) (fun j t v a b => hval j t v (by simpa using a) (by simpa using b)) hA
  obtain ⟨rfl, rfl⟩ := trodVars_none hV
  have hlen : ds.length = 2 := by
    obtain ⟨v0, vs0, d0, ds0, p0, q0, _, hds, _, _, r0⟩ := trodAll_cons hA
    obtain ⟨v1, vs1, d1, ds1, p1, q1, _, rfl, _, _, r1⟩ := trodAll_cons r0
    obtain ⟨_, rfl, _⟩ := trodAll_nil r1
    rw [hds]; rfl
  refine ((FnSeasons_walk xs hOk).law hS (FnSeasons_glob hL hsh)).mono fun e W' ⟨he, bel⟩ => ?_
  subst he
  have hB := args_behind laidOut bel (by kernel_rfl) hA
  have hds : ∃ d0 d1, ds = [d0, d1] := by
    match ds, hlen with
    | [d0, d1], _ => exact ⟨d0, d1, rfl⟩
  obtain ⟨d0, d1, rfl⟩ := hds
  exact ⟨_, rfl, _, _, _, [], _, [], hW', trodAll_mk1 (shut_bool Tryd.underlying4 _), hB, rfl, bel.frame _, fun h => by cases h⟩

theorem FnSeasons_row : Rows.FnSeasonsSaid :=
  OpenClaim.holds_of_wide 9 Tryd.f9 rfl rfl rfl rfl rfl rfl rfl ⟨rfl, rfl, rfl, rfl, rfl⟩ rfl rfl rfl rfl rfl (by kernel_rfl) Tryd.func9 (by kernel_rfl)
    (of_decide_eq_true (by kernel_rfl)) (by unfold Func.isWrapper; first | (rw [if_pos (by decide +kernel)]; kernel_rfl) | (rw [if_neg (by decide +kernel)]; exact ⟨rfl, rfl⟩))
    (fun os started H enc _ => FnSeasons_lifted os started H enc)

theorem FnSeasons_proved : Rows.FnSeasonsCardSaid :=
  Claim7.holds_tied_plain_at .later [] [.data, .data, .data, .data, .sentinel, .sentinel, .pinned] true (true, "99eb21ff7781f0018588cd5f73ccd914365ca5b5c72cffe5a901ccaff95d64b0") true
    FnSeasons_row (fun _ h => by cases h) (by kernel_rfl) (fun _ h => by cases h) fnSeasons_row_tie rfl ⟨rfl, rfl⟩ (by kernel_rfl) rfl
    (fun f fn hf hfn => by
      obtain rfl : f = 9 := Option.some.inj ((show Tryd.prog.funcNamed "loop.example/g01229/laws.FnSeasons" = some 9 by kernel_rfl).symm.trans hf) |>.symm
      obtain rfl : fn = Tryd.f9 := (Option.some.inj (Tryd.func9.symm.trans hfn)).symm
      exact ⟨by kernel_rfl, fun j t ht => by
        rw [Tryd.params9] at ht
        have hm : t ∈ [54, 54] := by simpa using Array.mem_of_getElem? ht
        have hall : ([54, 54].all fun u => !Tryd.prog.wantsStandIn u) = true := by kernel_rfl
        exact (show Tryd.prog.wantsStandIn t = false by simpa using List.all_eq_true.1 hall t hm)⟩)
    (by kernel_rfl)

end Go.Proofs.YtilkneilafpjiaaDoor
