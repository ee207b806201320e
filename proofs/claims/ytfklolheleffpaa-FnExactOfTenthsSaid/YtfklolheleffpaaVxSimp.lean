/- The evaluation, for the simplifier. -/
import Derived.Test.YtfklolheleffpaaVxEval
import Derived.Test.YtfklolheleffpaaVxFlt
import Derived.Test.YtfklolheleffpaaVxLaw
namespace Go.VL
open Go.RowKit
set_option linter.unusedSimpArgs false
set_option linter.unusedVariables false

def holds (x : Option VS) (K : VS → Prop) : Prop :=
  match x with
  | some s => K s
  | none => False

@[simp] theorem holds_some {s : VS} {K : VS → Prop} : holds (some s) K = K s := rfl
theorem holds_get {x : Option VS} {K : VS → Prop} (h : holds x K) : ∃ s, x = some s ∧ K s := by
  cases x with
  | none => exact h.elim
  | some s => exact ⟨s, rfl, h⟩

section
variable {P : Program} {C : CEnv} {Q : Exit → VS → Prop} {st : VS}

theorem VW.evalK {id : Nat} {l : List Oper} (hC : C.Ok P) (hg : guardsOk l.toArray l.length none l = true) (h : holds (veval P C l.toArray l.length none l st) (Q .normal)) : VW P (.region id l.toArray false) Q st := by
  obtain ⟨s, h1, h2⟩ := holds_get h
  exact .eval hC hg h1 h2

theorem VW.evalDK {id : Nat} {l : List Oper} (hC : C.Ok P) (hm : P.follows .mixedOrders = true) (hc : (Region.lexB .any l.toArray && noStore l && guardsOk l.toArray l.length none l) = true) (h : holds (veval P C l.toArray l.length none l st) (Q .normal)) : VW P (.region id l.toArray true) Q st := by
  obtain ⟨s, h1, h2⟩ := holds_get h
  simp only [Bool.and_eq_true] at hc
  exact .evalD hC hm hc.1.1 hc.1.2 hc.2 h1 h2

theorem VCalls.of {f : FuncId} {fn : Func} {c : Code} {args : List V} {R : V → Prop} {n : Nat} {rs : List ResultVar} (hf : P.funcs[f]? = some fn) (hb : fn.body = some c) (hn : fn.ntmps = n) (hr : fn.results.toList = rs) (h : VW P c (VRet P rs R) { t := args ++ List.replicate (n - args.length) .any, m := [] }) : VCalls P f args R := by
  subst hn
  subst hr
  exact .of_body hf hb h

def condK (v : V) (A B : Prop) : Prop :=
  match v with
  | .b x => (x = true → A) ∧ (x = false → B)
  | _ => False
@[simp] theorem condK_b {x : Bool} {A B : Prop} : condK (.b x) A B = ((x = true → A) ∧ (x = false → B)) := rfl

theorem VW.condK {c : Operand} {x y : Code} (h : condK (ev st.t c) (VW P x Q st) (VW P y Q st)) : VW P (.cond c x y) Q st := by
  unfold VL.condK at h
  split at h
  · rename_i b hb
    exact VW.condB hb h.1 h.2
  · exact h.elim

def resK (x : Option V) (R : V → Prop) : Prop :=
  match x with
  | some v => plainV v = true ∧ R v
  | none => False
@[simp] theorem resK_some {v : V} {R : V → Prop} : resK (some v) R = (plainV v = true ∧ R v) := rfl

theorem VRet.plain {rs : List ResultVar} {R : V → Prop} {s : VS} (h : resK (vres P rs s) R) : ∃ v r ids, vres P rs s = some v ∧ Fin s.m v r ids ∧ ids.Nodup ∧ R r := by
  unfold resK at h
  split at h
  · rename_i v hv; exact ⟨v, v, [], hv, .pl h.1, .nil, h.2⟩
  · exact h.elim

theorem VW.retP {rs : List ResultVar} {R : V → Prop} (h : resK (vres P rs st) R) : VW P .ret (VRet P rs R) st := .ret (VRet.plain h)
end

/-! Operands and operations -/
section
variable {P : Program} {C : CEnv} {m : VM} {t : List V} {ρ : Operand → V}
@[simp] theorem ev_tmp {i : Nat} : ev t (.tmp i) = t.getD i .any := rfl
@[simp] theorem ev_func {f : FuncId} : ev t (.func f) = .s (.func (.func f) #[] #[]) := rfl
@[simp] theorem ev_int {k : IntKind} {n : Int} : ev t (.const (.int k n)) = .i k n := rfl
@[simp] theorem ev_bool {b : Bool} : ev t (.const (.bool b)) = .b b := rfl
@[simp] theorem ev_float {k : FloatKind} {b : Nat} : ev t (.const (.float k b)) = .f k (some b) := rfl
@[simp] theorem ev_str {s : ByteArray} : ev t (.const (.string s)) = .str s := rfl
@[simp] theorem ev_nilslice : ev t (.const (.slice none 0 0)) = .nil := rfl
@[simp] theorem putV_some {d : Tmp} {v : V} : putV t (some d) v = t.set d v := rfl
@[simp] theorem putV_none {v : V} : putV t none v = t := rfl

@[simp] theorem vpick_true {a b : V} : vpick true a b = a := rfl
@[simp] theorem vpick_false {a b : V} : vpick false a b = b := rfl
@[simp] theorem vpick_and {x y : Bool} {u : V} : vpick x (mrg2 x (.b y) u) (.b false) = .b (x && y) := by cases x <;> rfl
@[simp] theorem vpick_or {x y : Bool} {u : V} : vpick x (.b true) (mrg2 (bn x) (.b y) u) = .b (x || y) := by cases x <;> rfl
@[simp] theorem vpick_bb {x y z : Bool} : vpick x (.b y) (.b z) = .b (if x = true then y else z) := by cases x <;> rfl
@[simp] theorem mrg2_same {g : Bool} {v : V} : mrg2 g v v = v := by cases g <;> rfl
@[simp] theorem mrg2_true {a b : V} : mrg2 true a b = a := rfl
@[simp] theorem mrg2_false {a b : V} : mrg2 false a b = b := rfl
@[simp] theorem mrg2_self {x : Bool} : mrg2 x (.b true) (.b x) = .b x := by cases x <;> rfl
@[simp] theorem mrg2_nself {x : Bool} : mrg2 (bn x) (.b false) (.b x) = .b x := by cases x <;> rfl
@[simp] theorem bn_true : bn true = false := rfl
@[simp] theorem bn_false : bn false = true := rfl

attribute [simp] geq_true geq_false gate_true gate_false gate_some
attribute [congr] gate_congr
attribute [simp] vthen vblock plainV

end
end Go.VL
