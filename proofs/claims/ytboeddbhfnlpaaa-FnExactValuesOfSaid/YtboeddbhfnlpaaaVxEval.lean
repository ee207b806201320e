/- Operations in a row, evaluated: with calls by contract, and guards that are merged. -/
import Derived.Test.YtboeddbhfnlpaaaVxApp
namespace Go.VL
open Go.RowKit
set_option linter.unusedSimpArgs false
set_option linter.unusedVariables false

/-- Read again as it stands. -/
def snapV : V → Bool
  | .sl _ _ | .cptr _ _ | .any => true
  | v => plainV v

def snapL (l : List V) : Bool := l.all snapV
def snapE (l : List (List V)) : Bool := l.all snapL

theorem Re.snap {m : VM} {v : V} (h : snapV v = true) : Re m v v := by
  cases v <;> first | exact .sl | exact .cptr | exact .any | exact .pl h | (cases h; done)

theorem ReL.snap {m : VM} : ∀ {l : List V}, snapL l = true → ReL m l l
  | [], _ => .nil
  | v :: l, h => by
    simp only [snapL, List.all_cons, Bool.and_eq_true] at h
    exact .cons (.snap h.1) (ReL.snap h.2)

theorem ReE.snap {m : VM} : ∀ {l : List (List V)}, snapE l = true → ReE m l l
  | [], _ => .nil
  | v :: l, h => by
    simp only [snapE, List.all_cons, Bool.and_eq_true] at h
    exact .cons (.snap h.1) (ReE.snap h.2)

/-- Elements, with what is their own as it reads. -/
def unE (es : List (List V)) : List (List V) := es.map fun l => l.map un1

theorem Re.un1 {m : VM} {v : V} (h : snapV (VL.un1 v) = true) : Re m v (VL.un1 v) := by
  unfold VL.un1 at h ⊢
  split
  · exact .own
  · rename_i hv
    exact Re.snap (by simpa using h)
theorem ReL.un1 {m : VM} : ∀ {l : List V}, snapL (l.map VL.un1) = true → ReL m l (l.map VL.un1)
  | [], _ => .nil
  | v :: l, h => by
    simp only [snapL, List.map_cons, List.all_cons, Bool.and_eq_true] at h
    exact .cons (Re.un1 h.1) (ReL.un1 h.2)
theorem ReE.un1 {m : VM} : ∀ {l : List (List V)}, snapE (unE l) = true → ReE m l (unE l)
  | [], _ => .nil
  | v :: l, h => by
    simp only [unE, snapE, List.map_cons, List.all_cons, Bool.and_eq_true] at h
    exact .cons (ReL.un1 h.1) (ReE.un1 (by simpa [snapE, unE] using h.2))

/-- A value as an argument. -/
def vre1 (m : VM) (v : V) : Option V :=
  match v with
  | .ref b e len => match m[b]? with
    | some (some (n, es)) => if e + len ≤ es.length ∧ snapE (unE ((es.drop e).take len)) = true then some (.sl n (unE ((es.drop e).take len))) else none
    | _ => none
  | .ptr b e j => match m[b]? with
    | some (some (_, es)) => (es[e]?).bind fun cs => if snapL cs = true then some (.cptr cs j) else none
    | _ => none
  | .refc b e j n len => match m[b]? with
    | some (some (_, es)) => (es[e]?).bind fun cs => if snapL cs = true ∧ j + len * n ≤ cs.length then some (.sl n (chunks n len (cs.drop j))) else none
    | _ => none
  | .own n es => some (.sl n (frzE es))
  | v => if snapV v = true then some v else none

theorem vre1_sound {m : VM} {v v' : V} (h : vre1 m v = some v') : Re m v v' := by
  unfold vre1 at h
  split at h
  · split at h
    · rename_i hb
      split at h
      · rename_i hc; cases h; exact .ref hb hc.1 (ReE.un1 hc.2)
      · cases h
    · cases h
  · split at h
    · rename_i hb
      simp only [Option.bind_eq_some_iff] at h
      obtain ⟨cs, h1, h2⟩ := h
      split at h2
      · rename_i hc; cases h2; exact .ptr hb h1 (ReL.snap hc)
      · cases h2
    · cases h
  · split at h
    · rename_i hb
      simp only [Option.bind_eq_some_iff] at h
      obtain ⟨cs, h1, h2⟩ := h
      split at h2
      · rename_i hc; cases h2; exact .refc hb h1 hc.2 (ReL.snap hc.1)
      · cases h2
    · cases h
  · cases h; exact .own
  · split at h
    · rename_i hc; cases h; exact .snap hc
    · cases h

def vreL1 (m : VM) : List V → Option (List V)
  | [] => some []
  | v :: l => (vre1 m v).bind fun v' => (vreL1 m l).map (v' :: ·)

theorem vreL1_sound {m : VM} : ∀ {l l' : List V}, vreL1 m l = some l' → ReL m l l'
  | [], _, h => by cases h; exact .nil
  | v :: l, l', h => by
    simp only [vreL1, Option.bind_eq_some_iff, Option.map_eq_some_iff] at h
    obtain ⟨v', h1, l2, h2, rfl⟩ := h
    exact .cons (vre1_sound h1) (vreL1_sound h2)

def vre (m : VM) (v : V) : Option V :=
  match v with
  | .agg cs => (vreL1 m cs).map .agg
  | .ptr b e j => match m[b]? with
    | some (some (_, es)) => (es[e]?).bind fun cs => (vreL1 m cs).map fun cs' => .cptr cs' j
    | _ => none
  | v => vre1 m v

theorem vre_sound {m : VM} {v v' : V} (h : vre m v = some v') : Re m v v' := by
  unfold vre at h
  split at h
  · simp only [Option.map_eq_some_iff] at h
    obtain ⟨cs, h1, rfl⟩ := h
    exact .agg (vreL1_sound h1)
  · split at h
    · rename_i hb
      simp only [Option.bind_eq_some_iff, Option.map_eq_some_iff] at h
      obtain ⟨cs, h1, cs', h2, rfl⟩ := h
      exact .ptr hb h1 (vreL1_sound h2)
    · cases h
  · exact vre1_sound h

/-- A pointer into a greater whole, as one to its part. -/
def vcut (n : Nat) (v : V) : V := match v with | .cptr cs j => .cptr ((cs.drop j).take n) 0 | v => v
theorem vcut_re {m : VM} {v v' : V} {n : Nat} (h : Re m v v') : Re m v (vcut n v') := by
  unfold vcut
  split
  · exact .cut h
  · exact h
def vreA (P : Program) (m : VM) (t : TypeId) (v : V) : Option V :=
  match tk P t with
  | .ptr e => (vre m v).map (vcut (P.cellsOf e))
  | _ => vre m v
theorem vreA_sound {P : Program} {m : VM} {t : TypeId} {v v' : V} (h : vreA P m t v = some v') : Re m v v' := by
  unfold vreA at h
  split at h
  · simp only [Option.map_eq_some_iff] at h
    obtain ⟨x, h1, rfl⟩ := h
    exact vcut_re (vre_sound h1)
  · exact vre_sound h
def vreLA (P : Program) (m : VM) : List TypeId → List V → Option (List V)
  | t :: ts, v :: l => (vreA P m t v).bind fun v' => (vreLA P m ts l).map (v' :: ·)
  | _, [] => some []
  | [], _ :: _ => none
theorem vreLA_sound {P : Program} {m : VM} : ∀ {ts : List TypeId} {l l' : List V}, vreLA P m ts l = some l' → ReL m l l'
  | t :: ts, v :: l, l', h => by
    simp only [vreLA, Option.bind_eq_some_iff, Option.map_eq_some_iff] at h
    obtain ⟨v', h1, l2, h2, rfl⟩ := h
    exact .cons (vreA_sound h1) (vreLA_sound h2)
  | [], [], l', h => by cases h; exact .nil
  | _ :: _, [], l', h => by cases h; exact .nil
  | [], _ :: _, _, h => by cases h

def vreL (m : VM) : List V → Option (List V)
  | [] => some []
  | v :: l => (vre m v).bind fun v' => (vreL m l).map (v' :: ·)

theorem vreL_sound {m : VM} : ∀ {l l' : List V}, vreL m l = some l' → ReL m l l'
  | [], _, h => by cases h; exact .nil
  | v :: l, l', h => by
    simp only [vreL, Option.bind_eq_some_iff, Option.map_eq_some_iff] at h
    obtain ⟨v', h1, l2, h2, rfl⟩ := h
    exact .cons (vre_sound h1) (vreL_sound h2)

def keptV (v : V) : Bool := match v with | .own _ _ => true | v => plainV v
def keptE (l : List (List V)) : Bool := l.all fun l => l.all keptV
theorem keptE_iff {es : List (List V)} (h : keptE es = true) : ∀ l ∈ es, ∀ v ∈ l, plainV v = true ∨ ∃ n' es', v = .own n' es' := fun l hl v hv => by
  have := List.all_eq_true.1 (List.all_eq_true.1 h l hl) v hv
  unfold keptV at this
  split at this
  · exact .inr ⟨_, _, rfl⟩
  · exact .inl this

/-- What the caller makes of a result. -/
def vex1 (k : Nat) (v : V) : V × VM :=
  match v with
  | .own n es => if keptE es = true then (.ref k 0 es.length, [some (n, es)]) else (.ref k 0 es.length, [some (n, frzE es)])
  | v => (frz v, [])

theorem vex1_sound (k : Nat) (v : V) : Ex k v (vex1 k v).1 (vex1 k v).2 := by
  unfold vex1
  split
  · split
    · rename_i h
      exact .kept (keptE_iff h)
    · exact .own
  · exact .fz

def vexL (k : Nat) : List V → List V × VM
  | [] => ([], [])
  | v :: l => ((vex1 k v).1 :: (vexL (k + (vex1 k v).2.length) l).1, (vex1 k v).2 ++ (vexL (k + (vex1 k v).2.length) l).2)

theorem vexL_sound (k : Nat) : ∀ l : List V, ExL k l (vexL k l).1 (vexL k l).2
  | [] => .nil
  | v :: l => .cons (vex1_sound k v) (vexL_sound _ l)

/-- A struct in a tuple too. -/
def vex1a (k : Nat) (v : V) : V × VM :=
  match v with
  | .agg cs => (.agg (vexL k cs).1, (vexL k cs).2)
  | v => vex1 k v
theorem vex1a_sound (k : Nat) (v : V) : Ex k v (vex1a k v).1 (vex1a k v).2 := by
  unfold vex1a
  split
  · exact .agg (vexL_sound k _)
  · exact vex1_sound k v
def vexT (k : Nat) : List V → List V × VM
  | [] => ([], [])
  | v :: l => ((vex1a k v).1 :: (vexT (k + (vex1a k v).2.length) l).1, (vex1a k v).2 ++ (vexT (k + (vex1a k v).2.length) l).2)
theorem vexT_sound (k : Nat) : ∀ l : List V, ExL k l (vexT k l).1 (vexT k l).2
  | [] => .nil
  | v :: l => .cons (vex1a_sound k v) (vexT_sound _ l)

def vex (k : Nat) (v : V) : V × VM :=
  match v with
  | .agg cs => (.agg (vexL k cs).1, (vexL k cs).2)
  | .tup cs => (.tup (vexT k cs).1, (vexT k cs).2)
  | v => vex1 k v

theorem vex_sound (k : Nat) (v : V) : Ex k v (vex k v).1 (vex k v).2 := by
  unfold vex
  split
  · exact .agg (vexL_sound k _)
  · exact .tup (vexT_sound k _)
  · exact vex1_sound k v

/-- F tells what function f returns, where it tells anything. -/
def Tells (P : Program) (f : FuncId) (F : List V → Option V) : Prop :=
  (P.funcs[f]?).any (fun fn => fn.body.isSome && fn.name != "runtime.NumGoroutine") = true ∧ ∀ args r, F args = some r → VCalls P f args (fun x => x = r)

abbrev CEnv := List (FuncId × (List V → Option V))

def cenv : CEnv → FuncId → List V → Option V
  | [], _, _ => none
  | (g, F) :: C, f, args => if f = g then F args else cenv C f args

def CEnv.Ok (P : Program) : CEnv → Prop
  | [] => True
  | (g, F) :: C => (Tells P g F ∨ TellsX P g F) ∧ CEnv.Ok P C

theorem cenv_ok {P : Program} : ∀ {C : CEnv} {f : FuncId} {args : List V} {r : V}, C.Ok P → cenv C f args = some r → ((P.funcs[f]?).any (fun fn => fn.body.isSome && fn.name != "runtime.NumGoroutine") = true ∧ VCalls P f args (fun x => x = r)) ∨ ∃ F, TellsX P f F ∧ F args = some r
  | [], _, _, _, _, h => by cases h
  | (g, F) :: C, f, args, r, hC, h => by
    simp only [cenv] at h
    split at h
    · rename_i hf; subst hf
      rcases hC.1 with h1 | h1
      · exact .inl ⟨h1.1, h1.2 _ _ h⟩
      · exact .inr ⟨F, h1, h⟩
    · exact cenv_ok hC.2 h

theorem vex_plain {k : Nat} {r : V} (h : plainV r = true) : vex k r = (r, []) := by cases r <;> first | rfl | (cases h; done)

/-- One operation, carried out. -/
def vstep (P : Program) (C : CEnv) (st : VS) (o : Oper) : Option VS :=
  match o.op with
  | .call { callee := .value (.func f), args := args, argTypes := ats } =>
    (vreLA P st.m ats.toList (args.toList.map (ev st.t))).bind fun vs => (cenv C f vs).map fun r => { t := putV st.t o.dst (vex st.m.length r).1, m := st.m ++ (vex st.m.length r).2, g := st.g }
  | .call { callee := .builtin .append, args := args, argTypes := ats } => match args.toList, ats.toList with
    | [s, y], [t, t'] => if t = t' then vapp P st o.dst t (ev st.t s) (ev st.t y) else none
    | _, _ => none
  | _ => vop1 P st o

/-- From st to st', operation by operation. -/
inductive Ste (P : Program) (C : CEnv) (ops : Array Oper) : List Oper → VS → VS → Prop
  | nil {st : VS} : Ste P C ops [] st st
  | skip {o : Oper} {l : List Oper} {st st' : VS} (hw : vwanted ops st.t o = some false) (h : Ste P C ops l { t := putV st.t o.dst und, m := st.m, g := st.g } st') : Ste P C ops (o :: l) st st'
  | op {o : Oper} {l : List Oper} {st st1 st' : VS} (hw : vwanted ops st.t o = some true) (h1 : vstep P C st o = some st1) (h : Ste P C ops l st1 st') : Ste P C ops (o :: l) st st'

section
variable {P : Program} {C : CEnv} {ops : Array Oper}

theorem Ste.append : ∀ {l l' : List Oper} {a b c : VS}, Ste P C ops l a b → Ste P C ops l' b c → Ste P C ops (l ++ l') a c
  | _, _, _, _, _, .nil, h => h
  | _, _, _, _, _, .skip hw h, k => .skip hw (h.append k)
  | _, _, _, _, _, .op hw h1 h, k => .op hw h1 (h.append k)

theorem Ste.vl (hC : C.Ok P) {Q : Exit → VS → Prop} : ∀ {l rest : List Oper} {st st' : VS}, Ste P C ops l st st' → VL P ops Q rest st' → VL P ops Q (l ++ rest) st
  | _, _, _, _, .nil, h => h
  | _, _, _, _, .skip hw h, k => VL.skip hw (h.vl hC k)
  | _, rest, st, st', .op (o := o) (l := l) (st1 := st1) hw h1 h, k => by
    have ih := h.vl hC k
    unfold vstep at h1
    split at h1
    · rename_i f args ats ho
      simp only [Option.bind_eq_some_iff, Option.map_eq_some_iff] at h1
      obtain ⟨vs, a1, r, a2, rfl⟩ := h1
      rcases cenv_ok hC a2 with ⟨b1, b2⟩ | ⟨F, b1, b2⟩
      · exact VL.call hw ho b1 (vreLA_sound a1) b2 fun r' hr' => by subst hr'; exact ⟨_, _, vex_sound _ _, ih⟩
      · have hp : plainV r = true := by obtain ⟨_, _, _, _, _, _, _, hx⟩ := b1; exact (hx _ _ b2).1
        rw [vex_plain hp] at ih
        exact VL.op (bl := []) hw (by simpa using OpY.extern ho b1 (vreLA_sound a1) b2) ih
    · rename_i args ats ho
      split at h1
      · rename_i s y t t' ha ht
        split at h1
        · rename_i htt
          subst htt
          have ha' : args = #[s, y] := Array.ext' (by simpa using ha)
          have ht' : ats = #[t, t] := Array.ext' (by simpa using ht)
          subst ha' ht'
          intro N w0 a w φ hs
          rw [List.cons_append]
          unfold wpList
          rw [vwanted_sound hw hs, if_pos rfl]
          left
          exact vapp_sound ho h1 hs fun a' w' φ' hs' => ih N w0 a' w' φ' hs'
        · cases h1
      · cases h1
    · have := VL.run (P := P) (ops := ops) (Q := Q) (rest := l ++ rest) (l := [o]) (st := st) (st' := st1) (by simp [vops, hw, h1]) ih
      simpa using this

theorem Ste.dl (hC : C.Ok P) : ∀ {l rest : List Oper} {st st' st'' : VS}, Ste P C ops l st st' → noStore l = true → DL P ops rest st' st'' → DL P ops (l ++ rest) st st''
  | _, _, _, _, _, .nil, _, h => h
  | _, _, _, _, _, .skip hw h, hn, k => DL.skip hw (h.dl hC (by simp only [noStore, List.all_cons, Bool.and_eq_true] at hn; simpa [noStore] using hn.2) k)
  | _, rest, st, st', st'', .op (o := o) (l := l) (st1 := st1) hw h1 h, hn, k => by
    have hn' := hn
    simp only [noStore, List.all_cons, Bool.and_eq_true] at hn'
    have ih := h.dl hC (by simpa [noStore] using hn'.2) k
    unfold vstep at h1
    split at h1
    · rename_i f args ats ho
      simp only [Option.bind_eq_some_iff, Option.map_eq_some_iff] at h1
      obtain ⟨vs, a1, r, a2, rfl⟩ := h1
      rcases cenv_ok hC a2 with ⟨b1, b2⟩ | ⟨F, b1, b2⟩
      · exact DL.call hw ho b1 (vreLA_sound a1) b2 (vex_sound _ _) ih
      · have hp : plainV r = true := by obtain ⟨_, _, _, _, _, _, _, hx⟩ := b1; exact (hx _ _ b2).1
        rw [vex_plain hp] at ih
        exact DL.op (bl := []) hw (fun more => by
          have := OpY.extern (m := st.m ++ more) (k := st.m.length) ho b1 (ReL.more more (vreLA_sound a1)) b2
          simpa using this) ih
    · rename_i args ats ho
      simp [ho] at hn'
    · have := DL.run (P := P) (ops := ops) (rest := l ++ rest) (l := [o]) (st := st) (st1 := st1) (st' := st'') (by simp only [noStore, List.all_cons, List.all_nil, Bool.and_true]; exact hn'.1) (by simp [vops, hw, h1]) ih
      simpa using this

/-! ### The evaluation -/
def mrg2 (g : Bool) (a b : V) : V := if g = true then a else b
def mrgT (g : Bool) : List V → List V → List V
  | a :: s, b :: t => mrg2 g a b :: mrgT g s t
  | s, t => if g = true then s else t

theorem mrgT_eq (g : Bool) : ∀ s t : List V, mrgT g s t = if g = true then s else t
  | [], [] => by simp [mrgT]
  | [], b :: t => by simp [mrgT]
  | a :: s, [] => by simp [mrgT]
  | a :: s, b :: t => by
    simp only [mrgT, mrg2, mrgT_eq g s t]
    split <;> rfl

def bn (x : Bool) : Bool := !x
def geq (x want : Bool) : Bool := x == want
theorem geq_true (x : Bool) : geq x true = x := by cases x <;> rfl
theorem geq_false (x : Bool) : geq x false = bn x := by cases x <;> rfl

def skipT : List Oper → List V → List V
  | [], t => t
  | o :: l, t => skipT l (putV t o.dst und)

/-- 'A' where g holds; else all of 'blk' is left out. -/
def gate (g : Bool) (A : Option VS) (st : VS) (blk : List Oper) : Option VS := if g = true then A else some { t := skipT blk st.t, m := st.m, g := st.g }

theorem gate_congr {g g' : Bool} {A A' : Option VS} {st : VS} {blk : List Oper} (hg : g = g') (h : g' = true → A = A') : gate g A st blk = gate g' A' st blk := by
  subst hg
  unfold gate
  split
  · exact h ‹_›
  · rfl

theorem gate_true (A : Option VS) (st : VS) (blk : List Oper) : gate true A st blk = A := rfl
theorem gate_false (A : Option VS) (st : VS) (blk : List Oper) : gate false A st blk = some { t := skipT blk st.t, m := st.m, g := st.g } := rfl
theorem gate_some (g : Bool) (t1 t gg : List V) (m : VM) (blk : List Oper) : gate g (some { t := t1, m := m, g := gg }) { t := t, m := m, g := gg } blk = some { t := mrgT g t1 (skipT blk t), m := m, g := gg } := by
  unfold gate
  rw [mrgT_eq]
  split <;> rfl

def guardV (ops : Array Oper) (t : List V) (j : Nat) : Option (Tmp × V) := ((ops[j]?).bind (·.dst)).bind fun d => (t[d]?).map fun v => (d, v)

def veval (P : Program) (C : CEnv) (ops : Array Oper) : Nat → Option (Nat × Bool) → List Oper → VS → Option VS
  | _, _, [], st => some st
  | 0, _, _ :: _, _ => none
  | n + 1, cur, o :: l, st =>
    if o.guard = cur then (vstep P C st o).bind (veval P C ops n cur l)
    else match o.guard with
      | none => none
      | some (j, want) => match guardV ops st.t j with
        | some (d, .b x) => (gate (geq x want) (veval P C ops n (some (j, want)) (o :: l.takeWhile fun o' => o'.guard != cur) { t := st.t.set d (.b want), m := st.m, g := st.g }) st (o :: l.takeWhile fun o' => o'.guard != cur)).bind (veval P C ops n cur (l.dropWhile fun o' => o'.guard != cur))
        | some (_, .tup _) => veval P C ops n cur (l.dropWhile fun o' => o'.guard != cur) { t := skipT (o :: l.takeWhile fun o' => o'.guard != cur) st.t, m := st.m, g := st.g }
        | _ => none

/-- An operation that is left out with the stretch. -/
def outB (ops : Array Oper) (j : Nat) (want : Bool) (seen : List Tmp) (o : Oper) : Bool :=
  match o.guard with
  | none => false
  | some (j', w) => (j' == j && w == want) || (match (ops[j']?).bind (·.dst) with | some d' => seen.contains d' | none => false)

/-- All of a guarded stretch is left out where its guard fails, and none of it writes the guard. -/
def skipOk (ops : Array Oper) (j : Nat) (want : Bool) (d : Tmp) : List Oper → List Tmp → Bool
  | [], _ => true
  | o :: l, seen => outB ops j want seen o && o.dst != some d && skipOk ops j want d l (match o.dst with | some d' => d' :: seen | none => seen)

/-- The region's guards are as they should. -/
def guardsOk (ops : Array Oper) : Nat → Option (Nat × Bool) → List Oper → Bool
  | _, _, [] => true
  | 0, _, _ :: _ => false
  | n + 1, cur, o :: l =>
    if o.guard = cur then guardsOk ops n cur l
    else match o.guard with
      | none => false
      | some (j, want) => match (ops[j]?).bind (·.dst) with
        | some d => skipOk ops j want d (o :: l.takeWhile fun o' => o'.guard != cur) [] && guardsOk ops n (some (j, want)) (o :: l.takeWhile fun o' => o'.guard != cur) && guardsOk ops n cur (l.dropWhile fun o' => o'.guard != cur)
        | none => false

/-- Its guard fails. -/
def Fails (want : Bool) : Option V → Prop
  | some (.b y) => y ≠ want
  | some (.tup _) => True
  | none => True
  | _ => False

theorem skip_all {j : Nat} {want : Bool} {d : Tmp} (hd : (ops[j]?).bind (·.dst) = some d) : ∀ {l : List Oper} {seen : List Tmp} {st : VS}, skipOk ops j want d l seen = true → Fails want st.t[d]? → (∀ d', d' ∈ seen → ∀ v, st.t[d']? = some v → v = und) →
    Ste P C ops l st { t := skipT l st.t, m := st.m, g := st.g }
  | [], _, _, _, _, _ => .nil
  | o :: l, seen, st, h, hv, hs => by
    simp only [skipOk, Bool.and_eq_true] at h
    obtain ⟨⟨h1, h2⟩, h3⟩ := h
    have hw : vwanted ops st.t o = some false := by
      unfold outB at h1
      unfold vwanted
      cases hg : o.guard with
      | none => simp [hg] at h1
      | some g =>
        obtain ⟨j', w⟩ := g
        simp only [hg, Bool.or_eq_true, Bool.and_eq_true, beq_iff_eq] at h1
        rcases h1 with ⟨rfl, rfl⟩ | h1
        · simp only [hd]
          cases ht : st.t[d]? with
          | none => rfl
          | some v =>
            rw [ht] at hv
            cases v <;> simp only [Fails] at hv
            · simp; exact hv
            · rfl
        · split at h1
          · rename_i d' hd'
            simp only [hd']
            have hm : d' ∈ seen := by simpa using h1
            cases ht : st.t[d']? with
            | none => rfl
            | some v => rw [hs d' hm v ht]
          · cases h1
    refine .skip hw ?_
    have hne : o.dst ≠ some d := by simpa using h2
    have hput : ∀ (t : List V) (x : Nat), o.dst ≠ some x → (putV t o.dst und)[x]? = t[x]? := fun t x hx => by
      cases ho : o.dst with
      | none => rfl
      | some e => simp only [putV]; rw [List.getElem?_set_ne]; intro he; exact hx (he ▸ ho)
    have := skip_all hd (st := { t := putV st.t o.dst und, m := st.m, g := st.g }) h3 (by simp only; rw [hput _ _ hne]; exact hv) (fun d' hd' v hv' => by
      by_cases hx : o.dst = some d'
      · simp only [putV, hx, List.getElem?_set] at hv'
        simp at hv'
        exact hv'.2.symm
      · rw [hput _ _ hx] at hv'
        have : d' ∈ seen := by
          cases ho : o.dst with
          | none => simpa [ho] using hd'
          | some e =>
            simp only [ho, List.mem_cons] at hd'
            rcases hd' with rfl | hd'
            · exact absurd ho hx
            · exact hd'
        exact hs d' this v hv')
    simpa [skipT] using this

theorem guard_wanted {st : VS} {o : Oper} {j : Nat} {want : Bool} {d : Tmp} (hg : o.guard = some (j, want)) (hd : (ops[j]?).bind (·.dst) = some d) (hv : st.t[d]? = some (.b want)) : vwanted ops st.t o = some true := by
  unfold vwanted
  simp [hg, hd, hv]

theorem putV_keeps {t : List V} {dst : Option Tmp} {v : V} {d : Nat} (hd : dst ≠ some d) : (putV t dst v)[d]? = t[d]? := by
  cases ho : dst with
  | none => rfl
  | some e => simp only [putV]; rw [List.getElem?_set_ne]; intro he; exact hd (he ▸ ho)

theorem vstep_keeps {st st1 : VS} {o : Oper} (h : vstep P C st o = some st1) (d : Nat) (hd : o.dst ≠ some d) {x : Bool} (hx : st.t[d]? = some (.b x)) : st1.t[d]? = some (.b x) := by
  have hput : ∀ (v : V), (putV st.t o.dst v)[d]? = some (.b x) := fun v => (putV_keeps hd).trans hx
  unfold vstep at h
  split at h
  · simp only [Option.bind_eq_some_iff, Option.map_eq_some_iff] at h
    obtain ⟨_, _, _, _, rfl⟩ := h
    exact hput _
  · split at h
    · split at h
      · unfold vapp at h
        split at h
        · split at h
          · split at h
            · cases h
              simp only
              rw [putV_keeps hd, List.getElem?_map, hx]
              rfl
            · cases h
          · cases h
        · cases h
      · cases h
    · cases h
  · unfold vop1 at h
    split at h
    · cases h; exact hput _
    · split at h
      · cases h; exact hput _
      · split at h
        · simp only [Option.map_eq_some_iff] at h
          obtain ⟨_, _, rfl⟩ := h
          exact hput _
        · cases h

theorem Ste.keeps {d : Nat} {x : Bool} : ∀ {l : List Oper} {st st' : VS}, Ste P C ops l st st' → (∀ o ∈ l, o.dst ≠ some d) → st.t[d]? = some (.b x) → st'.t[d]? = some (.b x)
  | _, _, _, .nil, _, h => h
  | _, _, _, .skip hw h, hd, hx => h.keeps (fun o ho => hd o (by simp [ho])) ((putV_keeps (hd _ (by simp))).trans hx)
  | _, _, _, .op hw h1 h, hd, hx => h.keeps (fun o ho => hd o (by simp [ho])) (vstep_keeps h1 d (hd _ (by simp)) hx)

theorem skipOk_dst {j : Nat} {want : Bool} {d : Tmp} : ∀ {l : List Oper} {seen : List Tmp}, skipOk ops j want d l seen = true → ∀ o ∈ l, o.dst ≠ some d
  | [], _, _, o, ho => by simp at ho
  | x :: l, seen, h, o, ho => by
    simp only [skipOk, Bool.and_eq_true] at h
    rcases List.mem_cons.1 ho with rfl | ho
    · simpa using h.1.2
    · exact skipOk_dst h.2 o ho

/-- The evaluation is right. -/
theorem veval_ste : ∀ (n : Nat) (cur : Option (Nat × Bool)) (l : List Oper) (st st' : VS), veval P C ops n cur l st = some st' → guardsOk ops n cur l = true →
    (∀ j want, cur = some (j, want) → ∃ d, (ops[j]?).bind (·.dst) = some d ∧ st.t[d]? = some (.b want) ∧ ∀ o ∈ l, o.dst ≠ some d) → Ste P C ops l st st'
  | n, cur, [], st, st', h, _, _ => by
    have : st = st' := by cases n <;> simpa [veval] using h
    subst this
    exact .nil
  | 0, _, _ :: _, _, _, h, _, _ => by simp [veval] at h
  | n + 1, cur, o :: l, st, st', h, hg, hc => by
    simp only [veval] at h
    simp only [guardsOk] at hg
    by_cases hcur : o.guard = cur
    · rw [if_pos hcur] at h hg
      simp only [Option.bind_eq_some_iff] at h
      obtain ⟨st1, h1, h2⟩ := h
      have hw : vwanted ops st.t o = some true := by
        cases hcu : cur with
        | none => unfold vwanted; simp [hcur, hcu]
        | some g =>
          obtain ⟨j, want⟩ := g
          obtain ⟨d, d1, d2, _⟩ := hc j want hcu
          exact guard_wanted (hcur.trans hcu) d1 d2
      refine .op hw h1 (veval_ste n cur l st1 st' h2 hg fun j want hcu => ?_)
      obtain ⟨d, d1, d2, d3⟩ := hc j want hcu
      exact ⟨d, d1, vstep_keeps h1 d (d3 o (by simp)) d2, fun o' ho' => d3 o' (by simp [ho'])⟩
    · rw [if_neg hcur] at h hg
      cases hog : o.guard with
      | none => simp [hog] at h
      | some g =>
        obtain ⟨j, want⟩ := g
        simp only [hog] at h hg
        cases hd : (ops[j]?).bind (·.dst) with
        | none => simp [hd] at hg
        | some d =>
          simp only [hd, Bool.and_eq_true] at hg
          obtain ⟨⟨g1, g2⟩, g3⟩ := hg
          have hsplit : o :: l = (o :: l.takeWhile fun o' => o'.guard != cur) ++ l.dropWhile fun o' => o'.guard != cur := by
            simp [List.takeWhile_append_dropWhile]
          have hkeep : ∀ (s1 : VS), Ste P C ops (o :: l.takeWhile fun o' => o'.guard != cur) st s1 → ∀ j want, cur = some (j, want) → ∃ d, (ops[j]?).bind (·.dst) = some d ∧ s1.t[d]? = some (.b want) ∧ ∀ o' ∈ l.dropWhile (fun o' => o'.guard != cur), o'.dst ≠ some d := fun s1 hs1 j want hcu => by
            obtain ⟨d, d1, d2, d3⟩ := hc j want hcu
            exact ⟨d, d1, hs1.keeps (fun o' ho' => d3 o' (by rw [hsplit]; simp only [List.mem_append]; exact .inl ho')) d2, fun o' ho' => d3 o' (by rw [hsplit]; simp only [List.mem_append]; exact .inr ho')⟩
          have hdst := skipOk_dst g1
          cases hv : st.t[d]? with
          | none => simp [guardV, hd, hv] at h
          | some v =>
            cases v with
            | b x =>
              simp only [guardV, hd, hv, Option.bind_some, Option.map_some] at h
              simp only [Option.bind_eq_some_iff] at h
              obtain ⟨s1, h1, h2⟩ := h
              have hs1 : Ste P C ops (o :: l.takeWhile fun o' => o'.guard != cur) st s1 := by
                cases hgx : geq x want with
                | true =>
                  have hx : x = want := by simpa [geq] using hgx
                  subst hx
                  rw [hgx, gate_true] at h1
                  have hset : st.t.set d (.b x) = st.t := by
                    apply List.ext_getElem?
                    intro i
                    rw [List.getElem?_set]
                    split
                    · rename_i hi
                      subst hi
                      split
                      · exact hv.symm
                      · rename_i hlt
                        exact absurd (List.getElem?_eq_some_iff.1 hv).1 hlt
                    · rfl
                  rw [hset] at h1
                  exact veval_ste n (some (j, x)) _ st s1 h1 g2 fun j' want' he => by
                    cases he
                    exact ⟨d, hd, hv, hdst⟩
                | false =>
                  have hx : x ≠ want := by simpa [geq] using hgx
                  rw [hgx, gate_false] at h1
                  cases h1
                  exact skip_all hd g1 (by rw [hv]; exact hx) (by simp)
              rw [hsplit]
              exact hs1.append (veval_ste n cur _ s1 st' h2 g3 (hkeep s1 hs1))
            | tup vs =>
              simp only [guardV, hd, hv, Option.bind_some, Option.map_some] at h
              have hs1 : Ste P C ops (o :: l.takeWhile fun o' => o'.guard != cur) st { t := skipT (o :: l.takeWhile fun o' => o'.guard != cur) st.t, m := st.m, g := st.g } := skip_all hd g1 (by rw [hv]; trivial) (by simp)
              rw [hsplit]
              exact hs1.append (veval_ste n cur _ _ st' h g3 (hkeep _ hs1))
            | _ => simp [guardV, hd, hv] at h

/-- A region, evaluated. -/
theorem VW.eval {id : Nat} {l : List Oper} {Q : Exit → VS → Prop} {st st' : VS} (hC : C.Ok P) (hg : guardsOk l.toArray l.length none l = true) (h : veval P C l.toArray l.length none l st = some st') (hQ : Q .normal st') : VW P (.region id l.toArray false) Q st :=
  .region (by simpa using (veval_ste _ _ _ _ _ h hg (fun _ _ h => by cases h)).vl (rest := []) hC (VL.nil hQ))

theorem VW.evalD {id : Nat} {l : List Oper} {Q : Exit → VS → Prop} {st st' : VS} (hC : C.Ok P) (hm : P.follows .mixedOrders = true) (hlex : orderB l = true) (hn : noStore l = true) (hg : guardsOk l.toArray l.length none l = true) (h : veval P C l.toArray l.length none l st = some st') (hQ : Q .normal st') : VW P (.region id l.toArray true) Q st :=
  .draw hm hlex (by simpa using (veval_ste _ _ _ _ _ h hg (fun _ _ h => by cases h)).dl (rest := []) hC hn DL.nil) hQ
end
end Go.VL
