/- The evaluation, for the simplifier. -/
import Derived.Test.YtboeddbhfnlpaaaVxEval
import Derived.Test.YtboeddbhfnlpaaaVxFlt
import Derived.Test.YtboeddbhfnlpaaaVxLaw
namespace Go.VL
open Go.RowKit
set_option linter.unusedSimpArgs false
set_option linter.unusedVariables false

def holds (x : Option VS) (K : VS → Prop) : Prop :=
  match x with
  | some s => K s
  | none => False

@[simp] theorem holds_some {s : VS} {K : VS → Prop} : holds (some s) K = K s := rfl
theorem holds_get {x : Option VS} {K : VS → Prop} (h : holds x K) : ∃ s, x = some s ∧ K s := by
  cases x with
  | none => exact h.elim
  | some s => exact ⟨s, rfl, h⟩

section
variable {P : Program} {C : CEnv} {Q : Exit → VS → Prop} {st : VS}

theorem VW.evalK {id : Nat} {l : List Oper} (hC : C.Ok P) (hg : guardsOk l.toArray l.length none l = true) (h : holds (veval P C l.toArray l.length none l st) (Q .normal)) : VW P (.region id l.toArray false) Q st := by
  obtain ⟨s, h1, h2⟩ := holds_get h
  exact .eval hC hg h1 h2

theorem VW.evalDK {id : Nat} {l : List Oper} (hC : C.Ok P) (hm : P.follows .mixedOrders = true) (hc : (orderB l && noStore l && guardsOk l.toArray l.length none l) = true) (h : holds (veval P C l.toArray l.length none l st) (Q .normal)) : VW P (.region id l.toArray true) Q st := by
  obtain ⟨s, h1, h2⟩ := holds_get h
  simp only [Bool.and_eq_true] at hc
  exact .evalD hC hm hc.1.1 hc.1.2 hc.2 h1 h2

theorem VCalls.of {f : FuncId} {fn : Func} {c : Code} {args : List V} {R : V → Prop} {n : Nat} {rs : List ResultVar} (hf : P.funcs[f]? = some fn) (hb : fn.body = some c) (hn : fn.ntmps = n) (hr : fn.results.toList = rs) (h : VW P c (VRet P rs R) { t := args ++ List.replicate (n - args.length) .any, m := [] }) : VCalls P f args R := by
  subst hn
  subst hr
  exact .of_body hf hb h

def condK (v : V) (A B : Prop) : Prop :=
  match v with
  | .b x => (x = true → A) ∧ (x = false → B)
  | _ => False
@[simp] theorem condK_b {x : Bool} {A B : Prop} : condK (.b x) A B = ((x = true → A) ∧ (x = false → B)) := rfl

theorem VW.condK {c : Operand} {x y : Code} (h : condK (ev st.t c) (VW P x Q st) (VW P y Q st)) : VW P (.cond c x y) Q st := by
  unfold VL.condK at h
  split at h
  · rename_i b hb
    exact VW.condB hb h.1 h.2
  · exact h.elim

def plainL (l : List V) : Bool := l.all plainV
def plainE (l : List (List V)) : Bool := l.all plainL

theorem plainE_iff {l : List (List V)} : plainE l = true ↔ ∀ x ∈ l, ∀ v ∈ x, plainV v = true := by simp [plainE, plainL]

def pownV (v : V) : Bool := match v with | .own _ _ => true | v => plainV v
def pownE (l : List (List V)) : Bool := l.all fun l => l.all pownV
theorem pownV_iff {v : V} (h : pownV v = true) : plainV v = true ∨ ∃ n es, v = .own n es := by
  unfold pownV at h
  split at h
  · exact .inr ⟨_, _, rfl⟩
  · exact .inl h

/-- A value as it is handed back, with the blocks that go with it. -/
def vfin1 (m : VM) (v : V) : Option (V × List Nat) :=
  match v with
  | .ref b e len => match m[b]? with
    | some (some (n, es)) => if e = 0 ∧ es.length = len ∧ pownE es = true then some (.own n es, [b]) else
      if e + len ≤ es.length ∧ plainE ((es.drop e).take len) = true then some (.own n ((es.drop e).take len), [b]) else none
    | _ => none
  | v => if plainV v = true then some (v, []) else none

theorem vfin1_sound {m : VM} {v r : V} {ids : List Nat} (h : vfin1 m v = some (r, ids)) : Fin m v r ids := by
  unfold vfin1 at h
  split at h
  · split at h
    · rename_i hb
      split at h
      · rename_i hc
        obtain ⟨rfl, h1, h2⟩ := hc
        cases h
        exact .tab hb h1 fun l hl v hv => pownV_iff (List.all_eq_true.1 (List.all_eq_true.1 h2 l hl) v hv)
      · split at h
        · rename_i hc; cases h; exact .refp hb hc.1 (plainE_iff.1 hc.2)
        · cases h
    · cases h
  · split at h
    · rename_i hc; cases h; exact .pl hc
    · cases h

def vfinL1 (m : VM) : List V → Option (List V × List Nat)
  | [] => some ([], [])
  | v :: l => (vfin1 m v).bind fun x => (vfinL1 m l).map fun y => (x.1 :: y.1, x.2 ++ y.2)

theorem vfinL1_sound {m : VM} : ∀ {l r : List V} {ids : List Nat}, vfinL1 m l = some (r, ids) → FinL m l r ids
  | [], _, _, h => by cases h; exact .nil
  | v :: l, _, _, h => by
    simp only [vfinL1, Option.bind_eq_some_iff, Option.map_eq_some_iff] at h
    obtain ⟨⟨x1, x2⟩, h1, ⟨y1, y2⟩, h2, h3⟩ := h
    cases h3
    exact .cons (vfin1_sound h1) (vfinL1_sound h2)

def vfin2 (m : VM) (v : V) : Option (V × List Nat) :=
  match v with
  | .agg cs => (vfinL1 m cs).map fun x => (.agg x.1, x.2)
  | v => vfin1 m v

theorem vfin2_sound {m : VM} {v r : V} {ids : List Nat} (h : vfin2 m v = some (r, ids)) : Fin m v r ids := by
  unfold vfin2 at h
  split at h
  · simp only [Option.map_eq_some_iff] at h
    obtain ⟨⟨x1, x2⟩, h1, h2⟩ := h
    cases h2
    exact .agg (vfinL1_sound h1)
  · exact vfin1_sound h

def vfinL2 (m : VM) : List V → Option (List V × List Nat)
  | [] => some ([], [])
  | v :: l => (vfin2 m v).bind fun x => (vfinL2 m l).map fun y => (x.1 :: y.1, x.2 ++ y.2)

theorem vfinL2_sound {m : VM} : ∀ {l r : List V} {ids : List Nat}, vfinL2 m l = some (r, ids) → FinL m l r ids
  | [], _, _, h => by cases h; exact .nil
  | v :: l, _, _, h => by
    simp only [vfinL2, Option.bind_eq_some_iff, Option.map_eq_some_iff] at h
    obtain ⟨⟨x1, x2⟩, h1, ⟨y1, y2⟩, h2, h3⟩ := h
    cases h3
    exact .cons (vfin2_sound h1) (vfinL2_sound h2)

def vfin (m : VM) (v : V) : Option (V × List Nat) :=
  match v with
  | .tup cs => (vfinL2 m cs).map fun x => (.tup x.1, x.2)
  | v => vfin2 m v

theorem vfin_sound {m : VM} {v r : V} {ids : List Nat} (h : vfin m v = some (r, ids)) : Fin m v r ids := by
  unfold vfin at h
  split at h
  · simp only [Option.map_eq_some_iff] at h
    obtain ⟨⟨x1, x2⟩, h1, h2⟩ := h
    cases h2
    exact .tup (vfinL2_sound h1)
  · exact vfin2_sound h

def resK (x : Option (V × List Nat)) (R : V → Prop) : Prop :=
  match x with
  | some (v, ids) => ids.Nodup ∧ R v
  | none => False
@[simp] theorem resK_some {v : V} {ids : List Nat} {R : V → Prop} : resK (some (v, ids)) R = (ids.Nodup ∧ R v) := rfl

theorem VRet.fin {rs : List ResultVar} {R : V → Prop} {s : VS} (h : resK ((vres P rs s).bind (vfin s.m)) R) : ∃ v r ids, vres P rs s = some v ∧ Fin s.m v r ids ∧ ids.Nodup ∧ R r := by
  cases hv : vres P rs s with
  | none => rw [hv] at h; exact h.elim
  | some v =>
    rw [hv] at h
    simp only [Option.bind_some] at h
    cases hf : vfin s.m v with
    | none => rw [hf] at h; exact h.elim
    | some x =>
      obtain ⟨r, ids⟩ := x
      rw [hf] at h
      exact ⟨v, r, ids, rfl, vfin_sound hf, h.1, h.2⟩
end

/-! Operands and operations -/
section
variable {P : Program} {C : CEnv} {m : VM} {t : List V} {ρ : Operand → V}
@[simp] theorem ev_tmp {i : Nat} : ev t (.tmp i) = t.getD i .any := rfl
@[simp] theorem ev_func {f : FuncId} : ev t (.func f) = .s (.func (.func f) #[] #[]) := rfl
@[simp] theorem ev_int {k : IntKind} {n : Int} : ev t (.const (.int k n)) = .i k n := rfl
@[simp] theorem ev_bool {b : Bool} : ev t (.const (.bool b)) = .b b := rfl
@[simp] theorem ev_float {k : FloatKind} {b : Nat} : ev t (.const (.float k b)) = .f k (some b) := rfl
@[simp] theorem ev_str {s : ByteArray} : ev t (.const (.string s)) = .str s := rfl
@[simp] theorem ev_nilslice : ev t (.const (.slice none 0 0)) = .nil := rfl
@[simp] theorem putV_some {d : Tmp} {v : V} : putV t (some d) v = t.set d v := rfl
@[simp] theorem putV_none {v : V} : putV t none v = t := rfl

@[simp] theorem vpick_true {a b : V} : vpick true a b = a := rfl
@[simp] theorem vpick_false {a b : V} : vpick false a b = b := rfl
@[simp] theorem vpick_and {x y : Bool} {u : V} : vpick x (mrg2 x (.b y) u) (.b false) = .b (x && y) := by cases x <;> rfl
@[simp] theorem vpick_or {x y : Bool} {u : V} : vpick x (.b true) (mrg2 (bn x) (.b y) u) = .b (x || y) := by cases x <;> rfl
@[simp] theorem vpick_bb {x y z : Bool} : vpick x (.b y) (.b z) = .b (if x = true then y else z) := by cases x <;> rfl
@[simp] theorem mrg2_same {g : Bool} {v : V} : mrg2 g v v = v := by cases g <;> rfl
@[simp] theorem mrg2_true {a b : V} : mrg2 true a b = a := rfl
@[simp] theorem mrg2_false {a b : V} : mrg2 false a b = b := rfl
@[simp] theorem mrg2_self {x : Bool} : mrg2 x (.b true) (.b x) = .b x := by cases x <;> rfl
@[simp] theorem mrg2_nself {x : Bool} : mrg2 (bn x) (.b false) (.b x) = .b x := by cases x <;> rfl
@[simp] theorem bn_true : bn true = false := rfl
@[simp] theorem bn_false : bn false = true := rfl

attribute [simp] geq_true geq_false gate_true gate_false
/- The guard first; what is guarded is looked at only where the guard is not known to fail. -/
theorem gate_cond {g g' : Bool} {A : Option VS} {st : VS} {blk : List Oper} (hg : g = g') : gate g A st blk = gate g' A st blk := by rw [hg]
attribute [congr] gate_cond
def gate2 (g : Bool) (A : Option VS) (st : VS) (blk : List Oper) : Option VS := gate g A st blk
theorem gate2_congr {g g' : Bool} {A A' : Option VS} {st : VS} {blk : List Oper} (hg : g = g') (h : g' = true → A = A') : gate2 g A st blk = gate2 g' A' st blk := gate_congr hg h
attribute [congr] gate2_congr
@[simp low] theorem gate_go {g : Bool} {A : Option VS} {st : VS} {blk : List Oper} : gate g A st blk = gate2 g A st blk := rfl
@[simp] theorem gate2_some {g : Bool} {t1 t gg : List V} {m : VM} {blk : List Oper} : gate2 g (some { t := t1, m := m, g := gg }) { t := t, m := m, g := gg } blk = some { t := mrgT g t1 (skipT blk t), m := m, g := gg } := gate_some g t1 t gg m blk
/-- One operation at a time: what follows is looked at only when the state is known. -/
def obind (x : Option VS) (f : VS → Option VS) : Option VS := x.bind f
theorem obind_congr {x y : Option VS} {f : VS → Option VS} (h : x = y) : obind x f = obind y f := by rw [h]
attribute [congr] obind_congr
@[simp] theorem obind_some {s : VS} {f : VS → Option VS} : obind (some s) f = f s := rfl
@[simp] theorem obind_none {f : VS → Option VS} : obind none f = none := rfl
section
variable {P : Program} {C : CEnv} {ops : Array Oper} {cur : Option (Nat × Bool)} {st : VS} {n : Nat} {o : Oper} {l : List Oper}
@[simp] theorem veval_nil : veval P C ops n cur [] st = some st := by cases n <;> rfl
@[simp] theorem veval_cons : veval P C ops (n + 1) cur (o :: l) st =
    if o.guard = cur then obind (vstep P C st o) (veval P C ops n cur l)
    else match o.guard with
      | none => none
      | some (j, want) => match guardV ops st.t j with
        | some (d, .b x) => obind (gate (geq x want) (veval P C ops n (some (j, want)) (o :: l.takeWhile fun o' => o'.guard != cur) { t := st.t.set d (.b want), m := st.m, g := st.g }) st (o :: l.takeWhile fun o' => o'.guard != cur)) (veval P C ops n cur (l.dropWhile fun o' => o'.guard != cur))
        | some (_, .tup _) => veval P C ops n cur (l.dropWhile fun o' => o'.guard != cur) { t := skipT (o :: l.takeWhile fun o' => o'.guard != cur) st.t, m := st.m, g := st.g }
        | _ => none := rfl
end
attribute [simp] vthen vblock vfin1 vfinL1 vfin2 vfinL2 vfin vres vres1 guardV mrgT skipT vreL1 vreL vreLA vreA vcut chunks vre1 vre vex1 vex1a vexL vexT vex frz frzL frzE cenv CEnv.Ok
@[simp] theorem plainV_i {k : IntKind} {n : Int} : plainV (.i k n) = true := rfl
@[simp] theorem plainV_b {x : Bool} : plainV (.b x) = true := rfl
@[simp] theorem plainV_f {k : FloatKind} {x : Option Nat} : plainV (.f k x) = true := rfl
@[simp] theorem plainV_str {x : ByteArray} : plainV (.str x) = true := rfl
@[simp] theorem plainV_s {x : Value} : plainV (.s x) = true := rfl
@[simp] theorem plainV_nil : plainV .nil = true := rfl
@[simp] theorem plainV_sl {n : Nat} {es : List (List V)} : plainV (.sl n es) = false := rfl
@[simp] theorem plainV_own {n : Nat} {es : List (List V)} : plainV (.own n es) = false := rfl
@[simp] theorem plainV_ref {b e n : Nat} : plainV (.ref b e n) = false := rfl
@[simp] theorem plainV_refc {b e j q n : Nat} : plainV (.refc b e j q n) = false := rfl
@[simp] theorem plainV_ptr {b e n : Nat} : plainV (.ptr b e n) = false := rfl
@[simp] theorem plainV_cptr {cs : List V} {j : Nat} : plainV (.cptr cs j) = false := rfl
@[simp] theorem plainV_agg {cs : List V} : plainV (.agg cs) = false := rfl
@[simp] theorem plainV_tup {cs : List V} : plainV (.tup cs) = false := rfl
@[simp] theorem plainV_any : plainV .any = false := rfl
@[simp] theorem snapV_i {k : IntKind} {n : Int} : snapV (.i k n) = true := rfl
@[simp] theorem snapV_b {x : Bool} : snapV (.b x) = true := rfl
@[simp] theorem snapV_f {k : FloatKind} {x : Option Nat} : snapV (.f k x) = true := rfl
@[simp] theorem snapV_str {x : ByteArray} : snapV (.str x) = true := rfl
@[simp] theorem snapV_s {x : Value} : snapV (.s x) = true := rfl
@[simp] theorem snapV_nil : snapV .nil = true := rfl
@[simp] theorem snapV_sl {n : Nat} {es : List (List V)} : snapV (.sl n es) = true := rfl
@[simp] theorem snapV_own {n : Nat} {es : List (List V)} : snapV (.own n es) = false := rfl
@[simp] theorem snapV_ref {b e n : Nat} : snapV (.ref b e n) = false := rfl
@[simp] theorem snapV_refc {b e j q n : Nat} : snapV (.refc b e j q n) = false := rfl
@[simp] theorem snapV_ptr {b e n : Nat} : snapV (.ptr b e n) = false := rfl
@[simp] theorem snapV_cptr {cs : List V} {j : Nat} : snapV (.cptr cs j) = true := rfl
@[simp] theorem snapV_agg {cs : List V} : snapV (.agg cs) = false := rfl
@[simp] theorem snapV_tup {cs : List V} : snapV (.tup cs) = false := rfl
@[simp] theorem snapV_any : snapV .any = true := rfl
@[simp] theorem un1_i {k : IntKind} {n : Int} : un1 (.i k n) = .i k n := rfl
@[simp] theorem un1_b {x : Bool} : un1 (.b x) = .b x := rfl
@[simp] theorem un1_f {k : FloatKind} {x : Option Nat} : un1 (.f k x) = .f k x := rfl
@[simp] theorem un1_str {x : ByteArray} : un1 (.str x) = .str x := rfl
@[simp] theorem un1_s {x : Value} : un1 (.s x) = .s x := rfl
@[simp] theorem un1_nil : un1 .nil = .nil := rfl
@[simp] theorem un1_any : un1 .any = .any := rfl
@[simp] theorem un1_sl {n : Nat} {es : List (List V)} : un1 (.sl n es) = .sl n es := rfl
@[simp] theorem un1_own {n : Nat} {es : List (List V)} : un1 (.own n es) = .sl n (frzE es) := rfl
@[simp] theorem un1_ref {b e n : Nat} : un1 (.ref b e n) = .ref b e n := rfl
@[simp] theorem un1_refc {b e j q n : Nat} : un1 (.refc b e j q n) = .refc b e j q n := rfl
@[simp] theorem un1_ptr {b e n : Nat} : un1 (.ptr b e n) = .ptr b e n := rfl
@[simp] theorem un1_cptr {cs : List V} {j : Nat} : un1 (.cptr cs j) = .cptr cs j := rfl
@[simp] theorem unT_agg {cs : List V} : unT (.agg cs) = .agg (cs.map un1) := rfl
@[simp] theorem unT_i {k : IntKind} {n : Int} : unT (.i k n) = .i k n := rfl
@[simp] theorem unT_b {x : Bool} : unT (.b x) = .b x := rfl
@[simp] theorem unT_f {k : FloatKind} {x : Option Nat} : unT (.f k x) = .f k x := rfl
@[simp] theorem unT_str {x : ByteArray} : unT (.str x) = .str x := rfl
@[simp] theorem unT_s {x : Value} : unT (.s x) = .s x := rfl
@[simp] theorem unT_nil : unT .nil = .nil := rfl
@[simp] theorem unT_any : unT .any = .any := rfl
@[simp] theorem unT_sl {n : Nat} {es : List (List V)} : unT (.sl n es) = .sl n es := rfl
@[simp] theorem unT_own {n : Nat} {es : List (List V)} : unT (.own n es) = .sl n (frzE es) := rfl
@[simp] theorem unT_ref {b e n : Nat} : unT (.ref b e n) = .ref b e n := rfl
@[simp] theorem unT_refc {b e j q n : Nat} : unT (.refc b e j q n) = .refc b e j q n := rfl
@[simp] theorem unT_ptr {b e n : Nat} : unT (.ptr b e n) = .ptr b e n := rfl
@[simp] theorem unT_cptr {cs : List V} {j : Nat} : unT (.cptr cs j) = .cptr cs j := rfl
@[simp] theorem unE_nil : unE [] = [] := rfl
@[simp] theorem unE_cons {l : List V} {es : List (List V)} : unE (l :: es) = l.map un1 :: unE es := rfl
@[simp] theorem pownE_nil : pownE [] = true := rfl
@[simp] theorem pownE_cons {l : List V} {es : List (List V)} : pownE (l :: es) = (l.all pownV && pownE es) := rfl
@[simp] theorem pownV_own {n : Nat} {es : List (List V)} : pownV (.own n es) = true := rfl
@[simp] theorem pownV_i {k : IntKind} {n : Int} : pownV (.i k n) = true := rfl
@[simp] theorem pownV_b {x : Bool} : pownV (.b x) = true := rfl
@[simp] theorem pownV_f {k : FloatKind} {x : Option Nat} : pownV (.f k x) = true := rfl
@[simp] theorem pownV_str {x : ByteArray} : pownV (.str x) = true := rfl
@[simp] theorem pownV_nil : pownV .nil = true := rfl
@[simp] theorem pownV_s {x : Value} : pownV (.s x) = true := rfl
theorem plain_pown {v : V} (h : plainV v = true) : pownV v = true := by cases v <;> first | exact h | rfl
theorem plainE_pown {l : List (List V)} (h : plainE l = true) : pownE l = true := List.all_eq_true.2 fun x hx => List.all_eq_true.2 fun v hv => plain_pown (List.all_eq_true.1 (List.all_eq_true.1 h x hx) v hv)
theorem snap_un1 {v : V} (h : snapV v = true) : un1 v = v := by cases v <;> first | rfl | (cases h; done)
theorem snapE_un {l : List (List V)} (h : snapE l = true) : unE l = l := by
  unfold unE
  conv => rhs; rw [← List.map_id l]
  refine List.map_congr_left fun x hx => ?_
  conv => rhs; rw [id, ← List.map_id x]
  exact List.map_congr_left fun v hv => snap_un1 (List.all_eq_true.1 (List.all_eq_true.1 h x hx) v hv)
@[simp] theorem plainL_nil : plainL [] = true := rfl
@[simp] theorem plainL_cons {v : V} {l : List V} : plainL (v :: l) = (plainV v && plainL l) := rfl
@[simp] theorem plainE_nil : plainE [] = true := rfl
@[simp] theorem plainE_cons {v : List V} {l : List (List V)} : plainE (v :: l) = (plainL v && plainE l) := rfl
@[simp] theorem snapL_nil : snapL [] = true := rfl
@[simp] theorem snapL_cons {v : V} {l : List V} : snapL (v :: l) = (snapV v && snapL l) := rfl
@[simp] theorem snapE_nil : snapE [] = true := rfl
@[simp] theorem snapE_cons {v : List V} {l : List (List V)} : snapE (v :: l) = (snapL v && snapE l) := rfl
theorem plain_snap {v : V} (h : plainV v = true) : snapV v = true := by cases v <;> first | rfl | (cases h; done)
theorem plainL_snap {l : List V} (h : plainL l = true) : snapL l = true := List.all_eq_true.2 fun v hv => plain_snap (List.all_eq_true.1 h v hv)
theorem plainE_snap {l : List (List V)} (h : plainE l = true) : snapE l = true := List.all_eq_true.2 fun x hx => plainL_snap (List.all_eq_true.1 h x hx)
theorem frzE_same {l : List (List V)} (h : plainE l = true) : frzE l = l := frzE_plain (plainE_iff.1 h)
@[simp] theorem noBM_nil {b : Nat} : noBM b [] = true := rfl
@[simp] theorem noBM_none {b : Nat} {m : VM} : noBM b (none :: m) = noBM b m := by simp [noBM]
@[simp] theorem noBM_some {b n : Nat} {es : List (List V)} {m : VM} : noBM b (some (n, es) :: m) = (noBE b es && noBM b m) := by simp [noBM, noBE]
@[simp] theorem noBE_nil {b : Nat} : noBE b [] = true := rfl
@[simp] theorem noBE_cons {b : Nat} {l : List V} {es : List (List V)} : noBE b (l :: es) = (l.all (noBV b) && noBE b es) := rfl
@[simp] theorem cellE_nil : cellE [] = true := rfl
@[simp] theorem cellOE_nil : cellOE [] = true := rfl
@[simp] theorem cellOE_cons {l : List V} {es : List (List V)} : cellOE (l :: es) = (l.all cellO && cellOE es) := rfl
theorem cellV_O {v : V} (h : cellV v = true) : cellO v = true := by cases v <;> first | rfl | exact h
theorem cellE_O {es : List (List V)} (h : cellE es = true) : cellOE es = true := List.all_eq_true.2 fun x hx => List.all_eq_true.2 fun v hv => cellV_O (List.all_eq_true.1 (List.all_eq_true.1 h x hx) v hv)
@[simp] theorem cellE_cons {l : List V} {es : List (List V)} : cellE (l :: es) = (l.all cellV && cellE es) := rfl
theorem plain_noB {b : Nat} {v : V} (h : plainV v = true) : noBV b v = true := by cases v <;> first | rfl | (cases h; done)
theorem plainE_noB {b : Nat} {l : List (List V)} (h : plainE l = true) : noBE b l = true := List.all_eq_true.2 fun x hx => List.all_eq_true.2 fun v hv => plain_noB (plainE_iff.1 h x hx v hv)
theorem plain_cell {v : V} (h : plainV v = true) : cellV v = true := by cases v <;> first | rfl | (cases h; done)
theorem plainE_cell {l : List (List V)} (h : plainE l = true) : cellE l = true := List.all_eq_true.2 fun x hx => List.all_eq_true.2 fun v hv => plain_cell (plainE_iff.1 h x hx v hv)
@[simp] theorem noBV_i {b : Nat} {k : IntKind} {n : Int} : noBV b (.i k n) = true := rfl
@[simp] theorem noBV_b {b : Nat} {x : Bool} : noBV b (.b x) = true := rfl
@[simp] theorem noBV_f {b : Nat} {k : FloatKind} {x : Option Nat} : noBV b (.f k x) = true := rfl
@[simp] theorem noBV_str {b : Nat} {x : ByteArray} : noBV b (.str x) = true := rfl
@[simp] theorem noBV_s {b : Nat} {x : Value} : noBV b (.s x) = true := rfl
@[simp] theorem noBV_nil {b : Nat} : noBV b .nil = true := rfl
@[simp] theorem noBV_any {b : Nat} : noBV b .any = true := rfl
@[simp] theorem noBV_sl {b n : Nat} {es : List (List V)} : noBV b (.sl n es) = true := rfl
@[simp] theorem noBV_cptr {b j : Nat} {cs : List V} : noBV b (.cptr cs j) = true := rfl
@[simp] theorem noBV_ref {b b' e n : Nat} : noBV b (.ref b' e n) = decide (b' ≠ b) := rfl
@[simp] theorem noBV_refc {b b' e j q n : Nat} : noBV b (.refc b' e j q n) = decide (b' ≠ b) := rfl
@[simp] theorem noBV_ptr {b b' e n : Nat} : noBV b (.ptr b' e n) = decide (b' ≠ b) := rfl
@[simp] theorem noBV_agg {b : Nat} {cs : List V} : noBV b (.agg cs) = false := rfl
@[simp] theorem noBV_tup {b : Nat} {cs : List V} : noBV b (.tup cs) = false := rfl
attribute [simp] vapp vcont kill noBT noBA
attribute [simp] vq vop1 vstep valloc vstore vload vload0 vrd vfieldAddr vfield vidx vindex natOf vbound vslice vlen cellV cellO vcells vbuild vfill lift1 scalarB chunks

end
end Go.VL
